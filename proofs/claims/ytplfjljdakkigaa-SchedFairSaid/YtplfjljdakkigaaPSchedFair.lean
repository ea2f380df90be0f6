/- SchedFair: the law's function answers true, over the abstract memory. -/
import Derived.Test.YtplfjljdakkigaaFlaw13
import Derived.Test.YtplfjljdakkigaaPsched
import Derived.Test.YtplfjljdakkigaaPkitPick
import Derived.Test.YtplfjljdakkigaaEv30
namespace Go.Lg.Try
set_option linter.unusedVariables false
set_option linter.unusedSimpArgs false
open Go Go.Proofs
namespace Fair
def Q : Value → AH → Prop := fun v _ => v = .bool true
def doc1 : List Value := [.int .i64 1, .int .i64 0, .bool false]
/-- a task's block -/
def tkC (s al : Nat) (told bad : Option Addr) (at_ : Int) : List Value := [.pointer (some ⟨s, 0, none⟩), .slice (some ⟨al, 0, none⟩) 10 10, .int .i64 at_, .pointer told, .pointer bad]
def alC : List Value := (List.replicate 10 ()).flatMap fun _ => doc1
theorem alC_get {k j : Nat} (hk : k < 10) (hj : j < 3) : alC[0 + k * 3 + j]? = doc1[j]? := by
  unfold alC
  rw [Nat.zero_add, flat_get_some (enc := fun _ => doc1) (sz := 3) (fun _ => rfl) hj (a := ())]
  rw [List.getElem?_replicate, if_pos hk]
/-- a step of a task that is always ready -/
theorem step_ok {h : AH} {tb s al : Nat} {told bad : Option Addr} {at_ : Int} (hg : h.get tb = some (.cells (tkC s al told bad at_) false false 5)) (ha : h.get al = some (.cells alC false false 3)) (hne : tb ≠ al) (ht : tb < h.n) (hal : al < h.n) (h0 : 0 ≤ at_) (h1 : at_ < 10) :
    Ok (C k_law13_task_Step [.pointer (some ⟨tb, 0, none⟩)] h) fun v h' => v = .int .u8 1 ∧ h'.get tb = some (.cells (tkC s al told bad (at_ + 1)) false false 5) ∧ Fr [tb] h h' := by
  obtain ⟨k, rfl⟩ : ∃ k : Nat, at_ = k := ⟨at_.toNat, by omega⟩
  refine Ok.le ?_ law13_task_Step_le
  obtain ⟨g1, s1, s2, s3, s4⟩ := push_st h [(.int .i64 0), (.int .i64 0), (.bool false)] [(.int .i64 0), (.int .i64 0), (.bool false)] 3 rfl
  have hg1 : g1.get tb = some (.cells (tkC s al told bad k) false false 5) := by rw [s3.g tb ht (by simp)]; exact hg
  have ha1 : g1.get al = some (.cells alC false false 3) := by rw [s3.g al hal (by simp)]; exact ha
  have e1 : g1.ldI .i64 tb (0 + 2) = some (k : Int) := AH.ldI_of hg1 rfl
  have e2 : g1.ldS tb (0 + 1) = some (some ⟨al, 0, none⟩, 10, 10) := AH.ldS_of hg1 rfl
  have d0 : g1.ldI .i64 al (0 + k * 3) = some 1 := AH.ldI_of ha1 (alC_get (j := 0) (by omega) (by omega))
  have d1 : g1.ldI .i64 al (0 + k * 3 + 1) = some 0 := AH.ldI_of ha1 (alC_get (j := 1) (by omega) (by omega))
  have d2 : g1.ldB al (0 + k * 3 + 2) = some false := AH.ldB_of ha1 (alC_get (j := 2) (by omega) (by omega))
  let g2 := g1.set h.n (some (.cells [.int .i64 1, .int .i64 0, .bool false] false false 3))
  have st2 : g1.st h.n 0 [.int .i64 1, .int .i64 0, .bool false] = some g2 := AH.st_of s2 (by simp)
  have hg2 : g2.get tb = some (.cells (tkC s al told bad k) false false 5) := by simp only [g2]; rw [AH.get_set_ne _ (by omega)]; exact hg1
  have e3 : g2.ldI .i64 tb (0 + 2) = some (k : Int) := AH.ldI_of hg2 rfl
  let g3 := g2.set tb (some (.cells (tkC s al told bad (k + 1)) false false 5))
  have st3 : g2.st tb (0 + 2) [.int .i64 ((k : Int) + 1)] = some g3 := AH.st_of hg2 (by simp [tkC])
  have hl3 : g3.get h.n = some (.cells [.int .i64 1, .int .i64 0, .bool false] false false 3) := by simp only [g3, g2]; rw [AH.get_set_ne _ (by omega), AH.get_set_eq]
  have f0 : g3.ldI .i64 h.n (0 + 0) = some 1 := AH.ldI_of hl3 rfl
  have f1 : g3.ldI .i64 h.n (0 + 1) = some 0 := AH.ldI_of hl3 rfl
  have f2 : g3.ldB h.n (0 + 2) = some false := AH.ldB_of hl3 rfl
  have hib := inB_t (show (0 : Int) ≤ (k : Int) by omega) (show (k : Int) < (10 : Nat) by omega)
  simp only [F_law13_task_Step, s1, Option.bind_some, e1, e2, dec_t (show (k : Int) < ((10 : Nat) : Int) by omega), cond_t, hib, Int.toNat_natCast, d0, d1, d2, st2]
  refine Ok.le ?_ law13_task_Step_j3_le
  simp only [Option.bind_some, e3, wrap64 (show -9223372036854775808 ≤ (k : Int) + 1 by omega) (by omega), st3, f2, cond_f]
  refine Ok.le ?_ law13_task_Step_j2_le
  simp only [Option.bind_some, f1, decide_true, Bool.not_true, cond_f]
  refine Ok.le ?_ law13_task_Step_j1_le
  have hw : IntKind.wrap .u8 1 = 1 := rfl
  simp only [Option.bind_some, f0, pick_eq 1 7 (by omega) (by omega), asI_i64, pickM_id 1 7 (by omega) (by omega), hw]
  refine Ok.some ⟨rfl, AH.get_set_eq _ _ _, ?_⟩
  refine ⟨s3.n, fun b hb hn => ?_⟩
  simp only [List.mem_cons, List.not_mem_nil, or_false] at hn
  simp only [g3, g2]
  rw [AH.get_set_ne _ hn, AH.get_set_ne _ (by omega)]
  exact s3.g b hb (by simp)

/-- tasks: the block of each, and how many steps it has had -/
def tsOf (tl : List (Nat × Int)) : List TD := tl.map fun p => ⟨some (y_P_law13_task, .pointer (some ⟨p.1, 0, none⟩)), 1, p.2⟩
theorem open_all (tl : List (Nat × Int)) : openN (tsOf tl) = tl.length := by
  unfold openN tsOf
  rw [List.filter_eq_self.mpr]
  · simp
  · intro x hx
    simp only [List.mem_map] at hx
    obtain ⟨p, _, rfl⟩ := hx
    simp
/-- what is known all along -/
structure I (h : AH) (s al : Nat) (told bad : Option Addr) (F : Nat → Prop) (tl : List (Nat × Int)) (line : List Int) : Prop where
  sch : ∃ w, Sch h s F (tsOf tl) line 0 w
  tk : ∀ p ∈ tl, h.get p.1 = some (.cells (tkC s al told bad p.2) false false 5) ∧ p.1 < h.n ∧ ¬ F p.1 ∧ p.1 ≠ al
  nd : (tl.map (·.1)).Nodup
  alw : h.get al = some (.cells alC false false 3)
  aln : al < h.n
  alF : ¬ F al
theorem step_m (v : Value) : ifcQ Try.prog "Step" (ifV (some (y_P_law13_task, v))) = some (k_law13_task_Step, [v], []) := by kernel_rfl
theorem step_b : hasBody Try.prog k_law13_task_Step = true := by kernel_rfl

/-- the first of the line has its step -/
theorem pick1 {h : AH} {s al : Nat} {told bad : Option Addr} {F : Nat → Prop} {tl : List (Nat × Int)} {i : Nat} {rest : List Int} (hi : I h s al told bad F tl (((i : Int) + 1) :: rest)) {tb : Nat} {c : Int} (ht : tl[i]? = some (tb, c)) (hc : 0 ≤ c ∧ c < 10) (hlen : tl.length < 100) (hrl : rest.length < 100) :
    Ok (C k_sched_Sched_Pick [.pointer (some ⟨s, 0, none⟩), .int .u64 0] h) fun v h' => v = .tuple #[.int .i64 ((i : Int) + 1), .int .u8 1, .bool true] ∧ ∃ F', I h' s al told bad F' (tl.set i (tb, c + 1)) (rest ++ [(i : Int) + 1]) := by
  obtain ⟨w, hs⟩ := hi.sch
  have hil : i < tl.length := (List.getElem?_eq_some_iff.mp ht).1
  have htl : (tsOf tl).length = tl.length := by simp [tsOf]
  have hx : (tsOf tl)[((i : Int) + 1 - 1).toNat]? = some ⟨some (y_P_law13_task, .pointer (some ⟨tb, 0, none⟩)), 1, c⟩ := by
    have : ((i : Int) + 1 - 1).toNat = i := by omega
    rw [this]; simp [tsOf, ht]
  have hk0 : ((0 : Int) % (((((i : Int) + 1) :: rest).length : Nat) : Int)).toNat = 0 := by simp
  obtain ⟨g1, g2, g3, g4⟩ := hi.tk (tb, c) (List.mem_of_getElem? ht)
  have hFm : ∀ {F1 : Nat → Prop} {h1 : AH}, Moved F F1 h h1 → ∀ b, b < h.n → ¬ F b → ¬ F1 b := fun mv b hb hn hf => by rcases mv.f b hf with e | e; exact hn e; omega
  refine (pick_go hs (p := 0) (by omega) (by simp) (by omega) (by simp; omega) (id := (i : Int) + 1) (by rw [hk0]; rfl) ⟨by omega, by rw [htl]; omega⟩ hx ⟨hc.1, by show c < 1000000; omega⟩
    (R := fun st F2 ts2 line2 woken2 h2 => st = 1 ∧ ts2 = tsOf (tl.set i (tb, c + 1)) ∧ line2 = rest ∧ (∀ p ∈ tl.set i (tb, c + 1), h2.get p.1 = some (.cells (tkC s al told bad p.2) false false 5) ∧ p.1 < h2.n ∧ ¬ F2 p.1 ∧ p.1 ≠ al) ∧ h2.get al = some (.cells alC false false 3) ∧ al < h2.n ∧ ¬ F2 al) ?_).mono ?_
  · intro h1 F1 hs1 mv
    refine ⟨_, _, step_m _, step_b, ?_⟩
    have q1 : h1.get tb = some (.cells (tkC s al told bad c) false false 5) := by rw [mv.g tb g2 g3]; exact g1
    have q2 : h1.get al = some (.cells alC false false 3) := by rw [mv.g al hi.aln hi.alF]; exact hi.alw
    refine (step_ok q1 q2 g4 (Nat.lt_of_lt_of_le g2 mv.n) (Nat.lt_of_lt_of_le hi.aln mv.n) hc.1 hc.2).mono ?_
    rintro v h2 ⟨rfl, u1, u2⟩
    have htbF : ¬ F1 tb := hFm mv tb g2 g3
    refine ⟨1, F1, _, _, false, rfl, hs1.away (fun b hb hF => u2.g b hb (fun hm => by simp at hm; subst hm; exact htbF hF)) u2.n, by simp, ?_, rfl, ?_, ?_, ?_, ?_, Nat.lt_of_lt_of_le hi.aln (Nat.le_trans mv.n u2.n), hFm mv al hi.aln hi.alF⟩
    · rw [hk0]; simp; omega
    · have e0 : ((i : Int) + 1 - 1).toNat = i := by omega
      rw [e0]; simp [tsOf, List.map_set]
    · rw [hk0]; rfl
    · intro p hp
      obtain ⟨j, hj⟩ := List.getElem?_of_mem hp
      by_cases e : i = j
      · subst e
        rw [List.getElem?_set_self hil] at hj
        obtain rfl := Option.some.inj hj
        exact ⟨u1, Nat.lt_of_lt_of_le g2 (Nat.le_trans mv.n u2.n), htbF, g4⟩
      · rw [List.getElem?_set_ne e] at hj
        obtain ⟨k1, k2, k3, k4⟩ := hi.tk p (List.mem_of_getElem? hj)
        have hpt : p.1 ≠ tb := fun ep => by
          have n1 : (tl.map (·.1))[i]? = some tb := by simp [ht]
          have n2 : (tl.map (·.1))[j]? = some tb := by simp [hj, ep]
          have l1 : i < (tl.map (·.1)).length := by simpa using hil
          exact e ((List.getElem?_inj l1 hi.nd).mp (n1.trans n2.symm))
        refine ⟨?_, Nat.lt_of_lt_of_le k2 (Nat.le_trans mv.n u2.n), hFm mv p.1 k2 k3, k4⟩
        rw [u2.g p.1 (Nat.lt_of_lt_of_le k2 mv.n) (by simpa using hpt), mv.g p.1 k2 k3]; exact k1
    · rw [u2.g al (Nat.lt_of_lt_of_le hi.aln mv.n) (by simpa using Ne.symm g4)]; exact q2
  · rintro v h' ⟨st, F2, ts2, line2, woken2, h2, ⟨rfl, rfl, rfl, t1, t2, t3, t4⟩, rfl, F', hs', mv⟩
    have hfin : finM (tsOf (tl.set i (tb, c + 1))) line2 woken2 ((i : Int) + 1) 1 = (1, tsOf (tl.set i (tb, c + 1)), line2 ++ [(i : Int) + 1]) := by
      unfold finM
      rw [if_pos (.inl rfl)]
      congr 2
      apply List.ext_getElem?
      intro k
      rw [List.getElem?_modify]
      simp only [tsOf, List.getElem?_map]
      cases (tl.set i (tb, c + 1))[k]? with
      | none => rfl
      | some p => simp
    rw [hfin] at hs'
    rw [hfin]
    have hF' : ∀ b, b < h2.n → ¬ F2 b → ¬ F' b := fun b hb hn hf => by rcases mv.f b hf with e | e; exact hn e; omega
    refine ⟨rfl, F', ⟨woken2, hs'⟩, fun p hp => ?_, ?_, by rw [mv.g al t3 t4]; exact t2, Nat.lt_of_lt_of_le t3 mv.n, hF' al t3 t4⟩
    · obtain ⟨k1, k2, k3, k4⟩ := t1 p hp
      exact ⟨by rw [mv.g p.1 k2 k3]; exact k1, Nat.lt_of_lt_of_le k2 mv.n, hF' p.1 k2 k3, k4⟩
    · have : (tl.set i (tb, c + 1)).map (·.1) = tl.map (·.1) := by
        apply List.ext_getElem?
        intro k
        by_cases e : i = k
        · subst e; rw [List.map_set, List.getElem?_set_self (by simpa using hil)]; simp [ht]
        · simp [List.getElem?_set_ne e]
      rw [this]; exact hi.nd
theorem done_ok (h : AH) : Ok (law13_SchedFair_j1 h) Q := by
  refine Ok.le ?_ law13_SchedFair_j1_le
  simp only [C_closed (show closedL.any (Nat.beq k_law13_awake) = true from rfl), Option.bind_some, asB_b]
  exact Ok.some rfl
/-- the line of n tasks, k of them gone by -/
def lnK (n k : Nat) : List Int := (List.range' k (n - k) ++ List.range' 0 k).map fun (m : Nat) => (m : Int) + 1
theorem lnK_len (n k : Nat) (hk : k ≤ n) : (lnK n k).length = n := by simp [lnK]; omega
theorem lnK_step {n k : Nat} (hk : k < n) : ∃ rest, lnK n k = ((k : Int) + 1) :: rest ∧ rest ++ [(k : Int) + 1] = lnK n (k + 1) := by
  obtain ⟨m, rfl⟩ : ∃ m, n = k + 1 + m := ⟨n - (k + 1), by omega⟩
  refine ⟨(List.range' (k + 1) m ++ List.range' 0 k).map fun (m : Nat) => (m : Int) + 1, ?_, ?_⟩
  · have : k + 1 + m - k = m + 1 := by omega
    simp [lnK, this, List.range'_succ]
  · have : k + 1 + m - (k + 1) = m := by omega
    simp [lnK, this, List.range'_1_concat]
theorem lnK_all (n : Nat) : lnK n n = lnK n 0 := by simp [lnK]
theorem lnK_add (n : Nat) : lnK (n + 1) 0 = lnK n 0 ++ [(n : Int) + 1] := by simp [lnK, List.range'_1_concat]
/-- n tasks; the first k have had one step more -/
def P (tl : List (Nat × Int)) (n k r : Nat) : Prop := tl.length = n ∧ ∀ j, j < n → ∃ b, tl[j]? = some (b, if j < k then (r : Int) + 1 else (r : Int))
theorem P.next {tl : List (Nat × Int)} {n k r : Nat} (hp : P tl n k r) {b : Nat} (hk : tl[k]? = some (b, (r : Int))) (c : Int) (hc : c = r) : P (tl.set k (b, c + 1)) n (k + 1) r := by
  subst hc
  refine ⟨by rw [List.length_set]; exact hp.1, fun j hj => ?_⟩
  by_cases e : k = j
  · subst e
    exact ⟨b, by rw [List.getElem?_set_self (by rw [hp.1]; exact hj), if_pos (by omega)]⟩
  · obtain ⟨b', hb'⟩ := hp.2 j hj
    refine ⟨b', ?_⟩
    rw [List.getElem?_set_ne e, hb']
    by_cases e2 : j < k
    · rw [if_pos e2, if_pos (by omega)]
    · rw [if_neg e2, if_neg (by omega)]
theorem P.round {tl : List (Nat × Int)} {n r : Nat} (hp : P tl n n r) : P tl n 0 (r + 1) := ⟨hp.1, fun j hj => by
  obtain ⟨b, hb⟩ := hp.2 j hj
  exact ⟨b, by rw [hb, if_pos hj, if_neg (by omega)]; simp⟩⟩
section
variable {s al : Nat} {told bad : Option Addr}
theorem L2_ok {n r : Nat} (hn : n ≤ 20) (hr : r < 6) (R : Int) (hc : ∀ h F tl, I h s al told bad F tl (lnK n 0) → P tl n 0 (r + 1) → Ok (law13_SchedFair_j2 R n (some ⟨s, 0, none⟩) r h) Q) :
    ∀ (d k : Nat) (h : AH) (F : Nat → Prop) (tl : List (Nat × Int)), n - k = d → k ≤ n → I h s al told bad F tl (lnK n k) → P tl n k r → Ok (law13_SchedFair_L2 n (some ⟨s, 0, none⟩) r R ((k : Int) + 1) h) Q := by
  intro d
  induction d with
  | zero =>
    intro k h F tl hd hk hi hp
    obtain rfl : k = n := by omega
    refine Ok.le ?_ law13_SchedFair_L2_le
    rw [dec_f (show ¬((k : Int) + 1 ≤ (k : Int)) by omega), cond_f]
    rw [lnK_all] at hi
    exact hc h F tl hi hp.round
  | succ d ih =>
    intro k h F tl hd hk hi hp
    refine Ok.le ?_ law13_SchedFair_L2_le
    rw [dec_t (show (k : Int) + 1 ≤ (n : Int) by omega), cond_t]
    refine Ok.le ?_ law13_SchedFair_j5_le
    obtain ⟨rest, hl, hl2⟩ := lnK_step (show k < n by omega)
    have hlen := congrArg List.length hl
    rw [lnK_len n k hk] at hlen
    simp only [List.length_cons] at hlen
    rw [hl] at hi
    obtain ⟨b, hb⟩ := hp.2 k (by omega)
    rw [if_neg (by omega)] at hb
    refine Ok.bind (pick1 hi hb ⟨by omega, by omega⟩ (by rw [hp.1]; omega) (by omega)) ?_
    rintro _ h1 ⟨rfl, F1, hi1⟩
    obtain ⟨w, hs1⟩ := hi1.sch
    obtain ⟨ta, tn, tc, la, ln, lc, hS, hF⟩ := hs1
    have hp1 := hp.next hb (r : Int) rfl
    have hst : nOf (tsOf (tl.set k (b, (r : Int) + 1))) ((k : Int) + 1) = (r : Int) + 1 := by
      unfold nOf
      have e0 : ((k : Int) + 1 - 1).toNat = k := by omega
      have e1 : (tsOf (tl.set k (b, (r : Int) + 1))).length = n := by simp [tsOf, hp.1]
      rw [if_pos (by rw [e1]; omega), e0]
      have : (tl.set k (b, (r : Int) + 1))[k]? = some (b, (r : Int) + 1) := List.getElem?_set_self (by rw [hp.1]; omega)
      have e2 : (tsOf (tl.set k (b, (r : Int) + 1)))[k]? = some ⟨some (y_P_law13_task, .pointer (some ⟨b, 0, none⟩)), 1, (r : Int) + 1⟩ := by unfold tsOf; rw [List.getElem?_map, this]; rfl
      rw [e2]
    simp only [asTu_t, hdO_c, asI_i64, asI_u8, asB_b, Option.bind_some, List.isEmpty_nil, cond_t, decide_true, Bool.not_true, cond_f, s_steps hS ((k : Int) + 1) (by simp [tsOf, hp.1]; omega), hst, wrap64 (show -9223372036854775808 ≤ (r : Int) + 1 by omega) (by omega)]
    refine Ok.le ?_ law13_SchedFair_j4_le
    rw [cond_f]
    refine Ok.le ?_ law13_SchedFair_j3_le
    rw [wrap64 (by omega) (by omega)]
    rw [hl2] at hi1
    exact ih (k + 1) h1 F1 _ (by omega) (by omega) hi1 hp1
theorem L1_ok {n R : Nat} (hn : n ≤ 20) (hR : R ≤ 6) : ∀ (d r : Nat) (h : AH) (F : Nat → Prop) (tl : List (Nat × Int)), R - r = d → I h s al told bad F tl (lnK n 0) → P tl n 0 r → Ok (law13_SchedFair_L1 R n (some ⟨s, 0, none⟩) r h) Q := by
  intro d
  induction d with
  | zero =>
    intro r h F tl hd hi hp
    refine Ok.le ?_ law13_SchedFair_L1_le
    rw [dec_f (show ¬((r : Int) < (R : Int)) by omega), cond_f]
    exact done_ok h
  | succ d ih =>
    intro r h F tl hd hi hp
    refine Ok.le ?_ law13_SchedFair_L1_le
    rw [dec_t (show (r : Int) < (R : Int) by omega), cond_t]
    refine Ok.le ?_ law13_SchedFair_j6_le
    refine L2_ok hn (by omega) R (fun h1 F1 tl1 hi1 hp1 => ?_) n 0 h F tl (by omega) (by omega) hi hp
    refine Ok.le ?_ law13_SchedFair_j2_le
    rw [wrap64 (by omega) (by omega)]
    exact ih (r + 1) h1 F1 tl1 (by omega) hi1 hp1
theorem I.tight {h : AH} {F : Nat → Prop} {tl : List (Nat × Int)} {line : List Int} (hi : I h s al told bad F tl line) : ∃ F0, I h s al told bad F0 tl line ∧ ∀ b, F0 b → b < h.n := by
  obtain ⟨w, ta, tn, tc, la, ln, lc, hS, hF⟩ := hi.sch
  refine ⟨fun b => b = s ∨ blk ta b ∨ blk la b, ⟨⟨w, ta, tn, tc, la, ln, lc, hS, fun b hb => hb⟩, fun p hp => ?_, hi.nd, hi.alw, hi.aln, fun hb => hi.alF (hF _ hb)⟩, fun b hb => ?_⟩
  · obtain ⟨k1, k2, k3, k4⟩ := hi.tk p hp
    exact ⟨k1, k2, fun hb => k3 (hF _ hb), k4⟩
  · rcases hb with rfl | hb | hb
    · exact hS.sn
    · exact hS.tk.lt b hb
    · exact hS.lk.lt b hb
theorem L3_ok {n R : Nat} (hn : n ≤ 20) (hR : R ≤ 6) : ∀ (d i : Nat) (h : AH) (F : Nat → Prop) (tl : List (Nat × Int)), n - i = d → i ≤ n → I h s al told bad F tl (lnK i 0) → P tl i 0 0 → Ok (law13_SchedFair_L3 n (some ⟨s, 0, none⟩) (some ⟨al, 0, none⟩) 10 10 told bad R i h) Q := by
  intro d
  induction d with
  | zero =>
    intro i h F tl hd hin hi hp
    obtain rfl : i = n := by omega
    refine Ok.le ?_ law13_SchedFair_L3_le
    rw [dec_f (show ¬((i : Int) < (i : Int)) by omega), cond_f]
    refine Ok.le ?_ law13_SchedFair_j7_le
    exact L1_ok hn hR R 0 h F tl (by omega) hi hp
  | succ d ih =>
    intro i h F tl hd hin hi hp
    refine Ok.le ?_ law13_SchedFair_L3_le
    rw [dec_t (show (i : Int) < (n : Int) by omega), cond_t]
    refine Ok.le ?_ law13_SchedFair_j9_le
    obtain ⟨F0, hi, hF0⟩ := hi.tight
    obtain ⟨w, hs⟩ := hi.sch
    have hf := Fr.push [] h (.cells (tkC s al told bad 0) false false 5)
    have hs1 := hs.fr hf
    have hlen := hp.1
    have hlen2 : (tsOf tl).length = i := by simp [tsOf, hlen]
    refine Ok.bind (add_ok hs1 (y_P_law13_task, .pointer (some ⟨h.n, 0, none⟩)) (by omega) (by rw [lnK_len i 0 (by omega)]; omega)) ?_
    intro v h1 hv
    rw [if_neg (by rw [open_all]; omega)] at hv
    obtain ⟨rfl, F1, hs2, mv⟩ := hv
    simp only [asTu_t, hdO_c, asI_i64, Option.bind_some, List.isEmpty_nil, cond_t, decide_true, Bool.not_true, cond_f]
    refine Ok.le ?_ law13_SchedFair_j8_le
    rw [wrap64 (by omega) (by omega)]
    have hnF : ¬ F0 h.n := fun hf' => by have := hF0 _ hf'; omega
    have hnn : (h.push (.cells (tkC s al told bad 0) false false 5)).n = h.n + 1 := rfl
    have hmn := mv.n
    have hF1 : ∀ b, b < h.n + 1 → ¬ F0 b → ¬ F1 b := fun b hb hn hf => by rcases mv.f b hf with e | e; exact hn e; omega
    refine ih (i + 1) h1 F1 (tl ++ [(h.n, 0)]) (by omega) (by omega) ⟨⟨w, ?_⟩, ?_, ?_, ?_, ?_, ?_⟩ ?_
    · rw [lnK_add]
      rw [hlen2] at hs2
      have : tsOf (tl ++ [(h.n, 0)]) = tsOf tl ++ [⟨some (y_P_law13_task, .pointer (some ⟨h.n, 0, none⟩)), 1, 0⟩] := by simp [tsOf]
      rw [this]; exact hs2
    · intro p hp'
      rcases List.mem_append.mp hp' with hp' | hp'
      · obtain ⟨k1, k2, k3, k4⟩ := hi.tk p hp'
        refine ⟨?_, by omega, hF1 _ (by omega) k3, k4⟩
        rw [mv.g _ (by omega) k3, AH.get_push_ne _ (by omega)]; exact k1
      · simp only [List.mem_cons, List.not_mem_nil, or_false] at hp'
        subst hp'
        refine ⟨?_, by show h.n < h1.n; omega, hF1 _ (by show h.n < h.n + 1; omega) hnF, by have := hi.aln; show h.n ≠ al; omega⟩
        rw [mv.g _ (by show h.n < h.n + 1; omega) hnF]; exact AH.get_push_eq _ _
    · rw [List.map_append, List.nodup_append]
      refine ⟨hi.nd, by simp, fun a ha b hb => ?_⟩
      obtain ⟨p, hp1, rfl⟩ := List.mem_map.mp ha
      simp at hb
      have := (hi.tk p hp1).2.1
      omega
    · have := hi.aln
      rw [mv.g _ (by omega) hi.alF, AH.get_push_ne _ (by omega)]; exact hi.alw
    · have := hi.aln; omega
    · have := hi.aln; exact hF1 _ (by omega) hi.alF
    · refine ⟨by simp [hlen], fun j hj => ?_⟩
      by_cases e : j < i
      · obtain ⟨b, hb⟩ := hp.2 j e
        exact ⟨b, by rw [List.getElem?_append_left (by omega), hb]⟩
      · obtain rfl : j = i := by omega
        exact ⟨h.n, by rw [List.getElem?_append_right (by omega), hlen]; simp⟩
def doneC (k : Nat) : List Value := (List.range 10).flatMap fun i => if i < k then doc1 else [.int .i64 0, .int .i64 0, .bool false]
theorem doneC_set : ∀ k, k < 10 → AH.setL (doneC k) (0 + k * 3 + 0) [.int .i64 1] = doneC (k + 1)
  | 0, _ => rfl | 1, _ => rfl | 2, _ => rfl | 3, _ => rfl | 4, _ => rfl | 5, _ => rfl | 6, _ => rfl | 7, _ => rfl | 8, _ => rfl | 9, _ => rfl
  | k + 10, h => absurd h (by omega)
theorem doneC_len : ∀ k, k < 10 → (doneC k).length = 30
  | 0, _ => rfl | 1, _ => rfl | 2, _ => rfl | 3, _ => rfl | 4, _ => rfl | 5, _ => rfl | 6, _ => rfl | 7, _ => rfl | 8, _ => rfl | 9, _ => rfl
  | k + 10, h => absurd h (by omega)
theorem L4_ok {n R : Nat} (hn : n ≤ 20) (hR : R ≤ 6) {F : Nat → Prop} {w : Bool} (hF : ¬ F al) : ∀ (d k : Nat) (h : AH), 10 - k = d → k ≤ 10 → Sch h s F (tsOf []) [] 0 w → h.get al = some (.cells (doneC k) false false 3) → al < h.n → Ok (law13_SchedFair_L4 (some ⟨s, 0, none⟩) R n told bad (some ⟨al, 0, none⟩) 10 10 ((10 : Nat) : Int) k h) Q := by
  intro d
  induction d with
  | zero =>
    intro k h hd hk hs hg hal
    obtain rfl : k = 10 := by omega
    refine Ok.le ?_ law13_SchedFair_L4_le
    refine Ok.le ?_ law13_SchedFair_j13_le
    rw [dec_f (show ¬(((10 : Nat) : Int) < ((10 : Nat) : Int)) by omega), cond_f]
    refine Ok.le ?_ law13_SchedFair_j10_le
    exact L3_ok hn hR n 0 h F [] (by omega) (by omega) ⟨⟨w, hs⟩, by simp, by simp, hg, hal, hF⟩ ⟨rfl, fun j hj => absurd hj (by omega)⟩
  | succ d ih =>
    intro k h hd hk hs hg hal
    refine Ok.le ?_ law13_SchedFair_L4_le
    refine Ok.le ?_ law13_SchedFair_j13_le
    rw [dec_t (show (k : Int) < ((10 : Nat) : Int) by omega), cond_t]
    refine Ok.le ?_ law13_SchedFair_j12_le
    have st : h.st al (0 + k * 3 + 0) [.int .i64 1] = some (h.set al (some (.cells (doneC (k + 1)) false false 3))) := by
      rw [← doneC_set k (by omega)]; exact AH.st_of hg (by rw [doneC_len k (by omega)]; simp; omega)
    simp only [Option.bind_some, inB_t (show (0 : Int) ≤ (k : Int) by omega) (show (k : Int) < (10 : Nat) by omega), cond_t, Int.toNat_natCast, st]
    refine Ok.le ?_ law13_SchedFair_j11_le
    rw [wrap64 (by omega) (by omega)]
    refine ih (k + 1) _ (by omega) (by omega) (hs.away (fun b hb hb2 => AH.get_set_ne _ (fun e => hF (e ▸ hb2))) (Nat.le_refl _)) (AH.get_set_eq _ _ _) hal
end
theorem main (h : AH) (x : Int) (wx : (Lit.int .i64 x).wf = true) (y : Int) (wy : (Lit.int .i64 y).wf = true) : Ok (C k_law13_SchedFair [.int .i64 x, .int .i64 y] h) Q := by
  refine Ok.le ?_ law13_SchedFair_le
  have b1 := pickM_bd x 20 (by omega)
  have b2 := pickM_bd y 6 (by omega)
  obtain ⟨N, hN⟩ : ∃ N : Nat, pickM x 20 = N := ⟨(pickM x 20).toNat, by omega⟩
  obtain ⟨R, hR⟩ : ∃ R : Nat, pickM y 6 = R := ⟨(pickM y 6).toNat, by omega⟩
  let h8 := h.push (.cells [.slice none 0 0] false false 1)
  have st1 : (h8.push (.cells [.bool false] false false 1)).st h8.n 0 [.bool false] = some _ := AH.st_of (AH.get_push_eq _ _) (by simp)
  simp only [F_law13_SchedFair, pick_eq x 20 (by omega) (by omega), pick_eq y 6 (by omega) (by omega), hN, hR, Option.bind_some, asI_i64]
  simp only [h8] at st1
  simp only [st1, Option.bind_some, sched_New_le _ rfl, asP_p, cond_t, dec_t (show (0 : Int) ≤ 10 by omega), dec_t (show (10 : Int) ≤ 10 by omega), dec_t (show (10 : Int) * 24 ≤ 1099511627776 by omega), dec_t (show (10 : Int) ≤ 1099511627776 by omega), Bool.and_self]
  generalize hG : (AH.set _ _ _ : AH) = h10
  have hn10 : h10.n = h.n + 2 := by rw [← hG]; rfl
  let h11 := h10.push (.cells [.bool true, .slice none 0 0, .slice none 0 0, .int .i64 0, .bool false] false false 5)
  have hS : Sch h11 h10.n (fun b => b = h10.n) [] [] 0 false := ⟨none, 0, 0, none, 0, 0, ⟨AH.get_push_eq _ _, .nil, .nil, by show h10.n < h10.n + 1; omega, fun e => e.elim, fun e => e.elim, fun b e => e.elim⟩, fun b hb => by
    rcases hb with e | e | e
    · exact e
    · exact e.elim
    · exact e.elim⟩
  rw [wrap64 (by omega) (by omega)]
  have e1 : (1 : Int) + (N : Int) = ((1 + N : Nat) : Int) := by omega
  rw [e1]
  exact L4_ok (n := 1 + N) (R := R) (F := fun b => b = h10.n) (w := false) (by omega) (by omega) (by show ¬ (h10.n + 1 = h10.n); omega) 10 0 _ (by omega) (by omega) (hS.fr (Fr.push [] _ _)) (AH.get_push_eq _ _) (by show h10.n + 1 < h10.n + 1 + 1; omega)
end Fair
end Go.Lg.Try
