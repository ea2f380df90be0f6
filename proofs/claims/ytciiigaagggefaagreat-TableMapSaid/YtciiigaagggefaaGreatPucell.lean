/- Entries of a table, as values. -/
import Derived.Test.YtciiigaagggefaaGreatFtl2
import Derived.Test.YtciiigaagggefaaGreatFsets
import Derived.Test.YtciiigaagggefaaGreatFcell
import Derived.Test.YtciiigaagggefaaGreatEv49
import Derived.Test.YtciiigaagggefaaGreatEv38
set_option linter.unusedVariables false
set_option linter.unusedSimpArgs false
namespace Go.Lg.Tryz
set_option linter.unusedVariables false
set_option linter.unusedSimpArgs false
open Go Go.Proofs
namespace Tab
structure En where
  u : Bool
  k : ByteArray
  v : ByteArray
abbrev eS : ByteArray := ByteArray.mk #[]
abbrev E0 : En := ⟨false, ByteArray.mk #[], ByteArray.mk #[]⟩
abbrev cE (e : En) : List Value := [.bool e.u, .string e.k, .string e.v]
abbrev vE (e : En) : Value := .agg #[.bool e.u, .string e.k, .string e.v]
abbrev vI (n : Int) : Value := .int .i64 n
abbrev zc : List Value := [.bool false, .string (ByteArray.mk #[]), .string (ByteArray.mk #[]), .int .i64 0, .int .i64 0]
abbrev ptr (b : Nat) : Value := .pointer (some ⟨b, 0, none⟩)
end Tab
end Go.Lg.Tryz

namespace Go.Lg.Tryz
set_option linter.unusedVariables false
set_option linter.unusedSimpArgs false
open Go Go.Proofs
namespace Tab
structure Cel where
  v : En
  ver : Int
  own : Int
abbrev c0 : Cel := ⟨E0, 0, 0⟩
abbrev encC (c : Cel) : List Value := [.bool c.v.u, .string c.v.k, .string c.v.v, .int .i64 c.ver, .int .i64 c.own]
theorem encC_len (c : Cel) : (encC c).length = 5 := rfl
abbrev at0 (p : Nat) : Value := .pointer (some ⟨p, 0, none⟩)
structure MemR (h : AH) (p q : Nat) (cs : List Cel) (clk : Int) : Prop where
  hp : h.get p = some (.cells [.slice (some ⟨q, 0, none⟩) cs.length cs.length, .int .i64 clk] false false 2)
  hq : h.get q = some (.cells (cs.flatMap encC) false false 5)
  ne : p ≠ q
  pn : p < h.n
  qn : q < h.n
  len : 0 < cs.length
  c0 : 0 ≤ clk
  c1 : clk ≤ 1099511627776
namespace MemR
variable {h h' : AH} {p q : Nat} {cs : List Cel} {clk : Int}
theorem fr {S : List Nat} (hM : MemR h p q cs clk) (hf : Fr S h h') (h1 : p ∉ S) (h2 : q ∉ S) : MemR h' p q cs clk :=
  ⟨by rw [hf.g _ hM.pn h1]; exact hM.hp, by rw [hf.g _ hM.qn h2]; exact hM.hq, hM.ne, Nat.lt_of_lt_of_le hM.pn hf.n, Nat.lt_of_lt_of_le hM.qn hf.n, hM.len, hM.c0, hM.c1⟩
theorem sl (hM : MemR h p q cs clk) : h.ldS p (0 + 0) = some (some ⟨q, 0, none⟩, cs.length, cs.length) := AH.ldS_of hM.hp rfl
theorem clock (hM : MemR h p q cs clk) : h.ldI .i64 p (0 + 1) = some clk := AH.ldI_of hM.hp rfl
theorem ld0 (hM : MemR h p q cs clk) {i : Nat} {c : Cel} (hc : cs[i]? = some c) : h.ldB q (0 + i * 5 + 0) = some c.v.u :=
  AH.ldB_of hM.hq (by rw [Nat.zero_add, flat_get_some encC_len (by omega) hc]; rfl)
theorem ld01 (hM : MemR h p q cs clk) {i : Nat} {c : Cel} (hc : cs[i]? = some c) : h.ldStr q (0 + i * 5 + 0 + 1) = some c.v.k :=
  AH.ldStr_of hM.hq (by rw [Nat.zero_add, Nat.add_zero, flat_get_some encC_len (by omega) hc]; rfl)
theorem ld02 (hM : MemR h p q cs clk) {i : Nat} {c : Cel} (hc : cs[i]? = some c) : h.ldStr q (0 + i * 5 + 0 + 2) = some c.v.v :=
  AH.ldStr_of hM.hq (by rw [Nat.zero_add, Nat.add_zero, flat_get_some encC_len (by omega) hc]; rfl)
theorem ld1 (hM : MemR h p q cs clk) {i : Nat} {c : Cel} (hc : cs[i]? = some c) : h.ldI .i64 q (0 + i * 5 + 3) = some c.ver :=
  AH.ldI_of hM.hq (by rw [Nat.zero_add, flat_get_some encC_len (by omega) hc]; rfl)
theorem ld2 (hM : MemR h p q cs clk) {i : Nat} {c : Cel} (hc : cs[i]? = some c) : h.ldI .i64 q (0 + i * 5 + 4) = some c.own :=
  AH.ldI_of hM.hq (by rw [Nat.zero_add, flat_get_some encC_len (by omega) hc]; rfl)
theorem put (hM : MemR h p q cs clk) {i o : Nat} {c c' : Cel} {vs : List Value} (hc : cs[i]? = some c) {j : Nat} (ho : o = i * 5 + j) (hj : j + vs.length ≤ 5) (hs : AH.setL (encC c) j vs = encC c') :
    ∃ h', h.st q o vs = some h' ∧ MemR h' p q (cs.set i c') clk ∧ Fr [q] h h' := by
  have hi : i < cs.length := (List.getElem?_eq_some_iff.mp hc).1
  refine ⟨_, AH.st_of hM.hq (by rw [flat_len encC_len]; omega), ⟨?_, ?_, hM.ne, hM.pn, hM.qn, by simp [hM.len], hM.c0, hM.c1⟩, Fr.set _ _ (by simp)⟩
  · rw [AH.get_set_ne _ hM.ne, hM.hp]; simp
  · rw [AH.get_set_eq, ho, flat_set encC_len hc hj hs]
theorem some_at (hM : MemR h p q cs clk) {i : Nat} (hi : i < cs.length) : ∃ c, cs[i]? = some c := ⟨_, List.getElem?_eq_getElem hi⟩
end MemR
/-- what the document's calls do to a list of cells -/
def mayE (n : Nat) (i o : Int) : Int := if i < 0 ∨ (n : Int) ≤ i ∨ o < 1 then 2 else 0
def lockM (cs : List Cel) (i o : Int) : Int × List Cel :=
  if i < 0 ∨ (cs.length : Int) ≤ i ∨ o < 1 then (2, cs) else match cs[i.toNat]? with
    | none => (2, cs)
    | some c => if c.own ≠ 0 ∧ c.own ≠ o then (130, cs) else (0, cs.set i.toNat { c with own := o })
def publishM (cs : List Cel) (clk : Int) (i o : Int) (v : En) (ver : Int) : Int × List Cel :=
  if i < 0 ∨ (cs.length : Int) ≤ i ∨ o < 1 then (2, cs) else match cs[i.toNat]? with
    | none => (2, cs)
    | some c => if c.own ≠ o then (130, cs) else if ver ≤ c.ver ∨ clk < ver then (131, cs) else (0, cs.set i.toNat ⟨v, ver, 0⟩)
def loadM (cs : List Cel) (i : Int) : Cel × Int := if i < 0 ∨ (cs.length : Int) ≤ i then (c0, 2) else match cs[i.toNat]? with
    | none => (c0, 2)
    | some c => (c, 0)
def advM (clk : Int) : Int × Int × Int := if clk = 1099511627776 then (0, 133, clk) else (clk + 1, 0, clk + 1)

section
variable {h : AH} {p q : Nat} {cs : List Cel} {clk : Int}
theorem right_eq (hM : MemR h p q cs clk) : C k_cell_Memory_table_Entry_right [at0 p] h = some (.bool true, h) := by
  refine cell_Memory_table_Entry_right_le _ ?_
  have := hM.len
  simp only [F_cell_Memory_table_Entry_right, Option.isNone_some, Bool.not_false, cond_true, Option.bind_some, hM.sl]
  rw [dec_t (by omega)]
theorem may_eq (hM : MemR h p q cs clk) (i o : Int) : C k_cell_Memory_table_Entry_may [at0 p, .int .i64 i, .int .i64 o] h = some (.int .i64 (mayE cs.length i o), h) := by
  refine cell_Memory_table_Entry_may_le _ ?_
  simp only [F_cell_Memory_table_Entry_may, right_eq hM, Option.bind_some, asB_b, Bool.not_true, cond_false, hM.sl, mayE]
  by_cases h1 : i < 0
  · simp [h1]
  · by_cases h2 : i < (cs.length : Int)
    · have h2' : ¬(cs.length : Int) ≤ i := by omega
      by_cases h3 : o < 1
      · simp [h1, h2, h2', h3]
      · rw [dec_f h1, cond_false, dec_t h2, Bool.not_true, cond_false, dec_f h3, cond_false, if_neg (by omega)]
        exact cell_Memory_table_Entry_may_j1_le _ rfl
    · have h2' : (cs.length : Int) ≤ i := by omega
      simp [h1, h2, h2']
theorem mayE_cases (n : Nat) (i o : Int) : (mayE n i o = 2 ∧ (i < 0 ∨ (n : Int) ≤ i ∨ o < 1)) ∨ (mayE n i o = 0 ∧ 0 ≤ i ∧ i < n ∧ 1 ≤ o ∧ ¬(i < 0 ∨ (n : Int) ≤ i ∨ o < 1)) := by
  unfold mayE
  by_cases hc : i < 0 ∨ (n : Int) ≤ i ∨ o < 1
  · exact .inl ⟨if_pos hc, hc⟩
  · exact .inr ⟨if_neg hc, by omega, by omega, by omega, hc⟩

theorem lock_ok (hM : MemR h p q cs clk) (i o : Int) : Ok (C k_cell_Memory_table_Entry_Lock [at0 p, .int .i64 i, .int .i64 o] h) fun v h' => v = .int .i64 (lockM cs i o).1 ∧ MemR h' p q (lockM cs i o).2 clk ∧ Fr [q] h h' := by
  refine Ok.le ?_ cell_Memory_table_Entry_Lock_le
  simp only [F_cell_Memory_table_Entry_Lock, may_eq hM, Option.bind_some, asI_i64]
  rcases mayE_cases cs.length i o with ⟨he, hc⟩ | ⟨he, h0, h1, h2, hc⟩
  · rw [he]
    simp only [lockM, if_pos hc]
    exact Ok.some ⟨rfl, hM, .refl _ _⟩
  · rw [he]
    obtain ⟨c, hcc⟩ := hM.some_at (toNat_lt h0 h1)
    refine Ok.le ?_ cell_Memory_table_Entry_Lock_j2_le
    simp only [Option.bind_some, hM.sl, inB_t h0 h1, cond_true, hM.ld2 hcc, lockM, if_neg hc, hcc]
    have key : ∀ x, c.own = x ∨ True → Ok (cell_Memory_table_Entry_Lock_j1 h o (some ⟨q, 0 + i.toNat * 5, none⟩)) fun v h' => v = .int .i64 0 ∧ MemR h' p q (cs.set i.toNat { c with own := o }) clk ∧ Fr [q] h h' := by
      intro _ _
      refine Ok.le ?_ cell_Memory_table_Entry_Lock_j1_le
      obtain ⟨h', e1, e2, e3⟩ := hM.put (o := 0 + i.toNat * 5 + 4) (j := 4) (vs := [.int .i64 o]) (c' := { c with own := o }) hcc (by omega) (by simp) rfl
      simp only [Option.bind_some, e1]
      exact Ok.some ⟨rfl, e2, e3⟩
    by_cases a : c.own = 0
    · simp only [a, decide_true, Bool.not_true, cond_false, ne_eq, not_true, false_and, if_false]
      exact key 0 (.inr trivial)
    · by_cases b : c.own = o
      · simp only [a, b, decide_true, decide_false, Bool.not_false, Bool.not_true, cond_false, cond_true, ne_eq, not_true, and_false, if_false]
        cases decide (o = 0) <;> exact key 0 (.inr trivial)
      · simp only [a, b, decide_false, Bool.not_false, cond_true, ne_eq, not_false_eq_true, and_self, if_true]
        exact Ok.some ⟨rfl, hM, .refl _ _⟩

theorem clock_eq (hM : MemR h p q cs clk) : C k_cell_Memory_table_Entry_Clock [at0 p] h = some (.int .i64 clk, h) := by
  refine cell_Memory_table_Entry_Clock_le _ ?_
  simp only [F_cell_Memory_table_Entry_Clock, right_eq hM, Option.bind_some, asB_b, Bool.not_true, cond_false]
  refine cell_Memory_table_Entry_Clock_j1_le _ ?_
  simp only [Option.bind_some, hM.clock]
theorem size_eq (hM : MemR h p q cs clk) : C k_cell_Memory_table_Entry_Size [at0 p] h = some (.int .i64 cs.length, h) := by
  refine cell_Memory_table_Entry_Size_le _ ?_
  simp only [F_cell_Memory_table_Entry_Size, right_eq hM, Option.bind_some, asB_b, Bool.not_true, cond_false]
  refine cell_Memory_table_Entry_Size_j1_le _ ?_
  simp only [Option.bind_some, hM.sl]
theorem adv_ok (hM : MemR h p q cs clk) : Ok (C k_cell_Memory_table_Entry_Advance [at0 p] h) fun v h' => v = .tuple #[.int .i64 (advM clk).1, .int .i64 (advM clk).2.1] ∧ MemR h' p q cs (advM clk).2.2 ∧ Fr [p] h h' := by
  refine Ok.le ?_ cell_Memory_table_Entry_Advance_le
  simp only [F_cell_Memory_table_Entry_Advance, right_eq hM, Option.bind_some, asB_b, Bool.not_true, cond_false, hM.clock, advM]
  by_cases a : clk = 1099511627776
  · simp only [a, decide_true, cond_true, if_true]
    exact Ok.some ⟨rfl, a ▸ hM, .refl _ _⟩
  · simp only [a, decide_false, cond_false, if_false]
    refine Ok.le ?_ cell_Memory_table_Entry_Advance_j1_le
    have h0 := hM.c0
    have h1 := hM.c1
    have hst : h.st p (0 + 1) [.int .i64 (clk + 1)] = some (h.set p (some (.cells [.slice (some ⟨q, 0, none⟩) cs.length cs.length, .int .i64 (clk + 1)] false false 2))) := AH.st_of hM.hp (by simp)
    have hM' : MemR (h.set p (some (.cells [.slice (some ⟨q, 0, none⟩) cs.length cs.length, .int .i64 (clk + 1)] false false 2))) p q cs (clk + 1) :=
      ⟨AH.get_set_eq _ _ _, by rw [AH.get_set_ne _ (Ne.symm hM.ne)]; exact hM.hq, hM.ne, hM.pn, hM.qn, hM.len, by omega, by omega⟩
    simp only [Option.bind_some, hM.clock, wrap64 (show -9223372036854775808 ≤ clk + 1 by omega) (by omega), hst, hM'.clock]
    exact Ok.some ⟨rfl, hM', Fr.set _ _ (by simp)⟩
end


section
variable {h : AH} {p q : Nat} {cs : List Cel} {clk : Int} {F : List Asr}
def aMem (p q : Nat) (cs : List Cel) (clk : Int) : Asr := Up (fun h => MemR h p q cs clk) fun b => b = p ∨ b = q
theorem MemR.live (m : MemR h p q cs clk) : ∀ b, (b = p ∨ b = q) → (h.get b).isSome = true ∧ b < h.n := by
  rintro b (rfl | rfl)
  · exact ⟨by rw [m.hp]; rfl, m.pn⟩
  · exact ⟨by rw [m.hq]; rfl, m.qn⟩
theorem MemR.same2 {h' : AH} (m : MemR h p q cs clk) (hg : ∀ b, (b = p ∨ b = q) → h'.get b = h.get b ∧ b < h'.n) : MemR h' p q cs clk :=
  ⟨by rw [(hg p (.inl rfl)).1]; exact m.hp, by rw [(hg q (.inr rfl)).1]; exact m.hq, m.ne, (hg p (.inl rfl)).2, (hg q (.inr rfl)).2, m.len, m.c0, m.c1⟩
theorem mem_at (hh : H h (aMem p q cs clk :: F)) : MemR h p q cs clk := hh.of_up
theorem mem_run {cs' : List Cel} {clk' : Int} {x : Res} {P : Value → Prop} {S : List Nat} (hS : ∀ b ∈ S, b = p ∨ b = q) (hh : H h (aMem p q cs clk :: F)) (f : MemR h p q cs clk → Ok x fun v h' => P v ∧ MemR h' p q cs' clk' ∧ Fr S h h') : Ok x fun v h' => P v ∧ H h' (aMem p q cs' clk' :: F) := by
  refine Ok.mono (f hh.of_up) ?_
  rintro v h' ⟨hp, m, fr⟩
  exact ⟨hp, hh.run fr.n (fun b hb hn => fr.g b hb fun hs => hn (hS b hs)) (fun b hb => .inl hb) m.live fun h'' hg => m.same2 hg⟩
theorem mem_new {cs' : List Cel} {clk' : Int} {h' : AH} {S : List Nat} (hS : ∀ b ∈ S, b = p ∨ b = q) (hh : H h (aMem p q cs clk :: F)) (m : MemR h' p q cs' clk') (fr : Fr S h h') : H h' (aMem p q cs' clk' :: F) :=
  hh.run fr.n (fun b hb hn => fr.g b hb fun hs => hn (hS b hs)) (fun b hb => .inl hb) m.live fun h'' hg => m.same2 hg
theorem publish_ok (w : H h (aMem p q cs clk :: F)) (i o : Int) (v : En) (ver : Int) : Ok (C k_cell_Memory_table_Entry_Publish [at0 p, .int .i64 i, .int .i64 o, vE v, .int .i64 ver] h) fun r h' => r = .int .i64 (publishM cs clk i o v ver).1 ∧ H h' (aMem p q (publishM cs clk i o v ver).2 clk :: F) := by
  refine Ok.le ?_ cell_Memory_table_Entry_Publish_le
  have w1 := w.push (.cells [.bool v.u, .string v.k, .string v.v] false false 3)
  have g1 := w1.get
  have hM := mem_at w1.drop
  simp only [F_cell_Memory_table_Entry_Publish, may_eq hM, Option.bind_some, asI_i64]
  rcases mayE_cases cs.length i o with ⟨he, hc⟩ | ⟨he, h0, h1, h2, hc⟩
  · rw [he]
    simp only [publishM, if_pos hc]
    exact Ok.some ⟨rfl, w1.drop⟩
  · rw [he]
    obtain ⟨c, hcc⟩ := hM.some_at (toNat_lt h0 h1)
    refine Ok.le ?_ cell_Memory_table_Entry_Publish_j2_le
    simp only [publishM, if_neg hc]
    simp only [Option.bind_some, hM.sl, inB_t h0 h1, cond_true, hM.ld2 hcc, hM.ld1 hcc, hM.clock, hcc]
    by_cases b : c.own = o
    · simp only [b, decide_true, Bool.not_true, cond_false, ne_eq, not_true, if_false]
      by_cases d : ver ≤ c.ver
      · simp only [d, decide_true, cond_true, true_or, if_true]
        exact Ok.some ⟨rfl, w1.drop⟩
      · by_cases e : clk < ver
        · simp only [d, e, decide_true, decide_false, cond_true, cond_false, or_true, if_true]
          exact Ok.some ⟨rfl, w1.drop⟩
        · simp only [d, e, decide_false, cond_false, or_self, if_false]
          refine Ok.le ?_ cell_Memory_table_Entry_Publish_j1_le
          obtain ⟨h', e1, e2, e3⟩ := hM.put (o := 0 + i.toNat * 5) (j := 0) (vs := [.bool v.u, .string v.k, .string v.v, .int .i64 ver, .int .i64 0]) (c' := ⟨v, ver, 0⟩) hcc (by omega) (by simp) rfl
          simp only [Option.bind_some, AH.ldB_of g1 (o := 0) rfl, AH.ldStr_of g1 (o := 0 + 1) rfl, AH.ldStr_of g1 (o := 0 + 2) rfl, e1]
          exact Ok.some ⟨rfl, mem_new (S := [q]) (by simp) w1.drop e2 e3⟩
    · simp only [b, decide_false, Bool.not_false, cond_true, ne_eq, not_false_eq_true, if_true]
      exact Ok.some ⟨rfl, w1.drop⟩
theorem mload_ok (w : H h (aMem p q cs clk :: F)) {i : Nat} {c : Cel} (hcc : cs[i]? = some c) : Ok (C k_cell_Memory_table_Entry_Load [at0 p, .int .i64 (i : Int)] h) fun r h' => r = .tuple #[vE c.v, .int .i64 c.ver, .int .i64 c.own, .int .i64 0] ∧ H h' (aMem p q cs clk :: F) := by
  refine Ok.le ?_ cell_Memory_table_Entry_Load_le
  have hi := (List.getElem?_eq_some_iff.mp hcc).1
  have w1 := w.push (.cells [.bool false, .string (ByteArray.mk #[]), .string (ByteArray.mk #[])] false false 3)
  have hM := mem_at w1.drop
  simp only [F_cell_Memory_table_Entry_Load, may_eq hM, Option.bind_some, asI_i64]
  rcases mayE_cases cs.length (i : Int) 1 with ⟨he, hc⟩ | ⟨he, h0, h1, h2, hc⟩
  · omega
  · rw [he]
    refine Ok.le ?_ cell_Memory_table_Entry_Load_j1_le
    obtain ⟨h2', k1, w2, k2⟩ := w1.st (o := 0) (cE c.v) (by simp)
    have w2' : H h2' (Cs h.n (cE c.v) 3 :: aMem p q cs clk :: F) := w2
    have hM2 := mem_at w2'.drop
    simp only [Option.bind_some, hM.sl, inB_t h0 h1, cond_true, Int.toNat_natCast, hM.ld2 hcc, hM.ld1 hcc, hM.ld0 hcc, hM.ld01 hcc, hM.ld02 hcc, k1, hM2.ld2 hcc, hM2.ld1 hcc, veqO_int, AH.ldB_of w2'.get (o := 0) rfl, AH.ldStr_of w2'.get (o := 0 + 1) rfl, AH.ldStr_of w2'.get (o := 0 + 2) rfl]
    exact Ok.some ⟨rfl, w2'.drop⟩
theorem new_ok (w : H h F) {n : Nat} (a : 1 ≤ n) (b : n ≤ 1024) : ∃ p q h', C k_cell_New_table_Entry [.int .i64 (n : Int)] h = some (.tuple #[at0 p, .int .i64 0], h') ∧ H h' (aMem p q (List.replicate n c0) 0 :: F) := by
  refine ⟨h.n + 1, h.n, (h.push (.cells (repL zc n) false false 5)).push (.cells [.slice (some ⟨h.n, 0, none⟩) n n, .int .i64 0] false false 2), ?_, ?_⟩
  · refine cell_New_table_Entry_le _ ?_
    unfold F_cell_New_table_Entry
    rw [dec_f (show ¬ (n : Int) < 1 by omega), cond_f, dec_f (show ¬ (1024 : Int) < n by omega), cond_f]
    refine cell_New_table_Entry_j1_le _ ?_
    simp only [dec_t (show (0 : Int) ≤ n by omega), dec_t (show (n : Int) ≤ n by omega), dec_t (show (n : Int) * 56 ≤ 281474976710656 by omega), dec_t (show (n : Int) ≤ 281474976710656 by omega), Bool.and_self, cond_t, Int.toNat_natCast]
    rfl
  · have w2 := (w.push (.cells (repL zc n) false false 5)).push (.cells [.slice (some ⟨h.n, 0, none⟩) n n, .int .i64 0] false false 2)
    have hm : MemR ((h.push (.cells (repL zc n) false false 5)).push (.cells [.slice (some ⟨h.n, 0, none⟩) n n, .int .i64 0] false false 2)) (h.n + 1) h.n (List.replicate n c0) 0 := by
      refine ⟨?_, ?_, by omega, by simp [AH.push], by simp only [AH.push]; omega, by simp; omega, by omega, by omega⟩
      · rw [AH.get_push, if_pos (by simp [AH.push])]; simp
      · rw [AH.get_push_ne _ (by simp [AH.push]), AH.get_push_eq]
        have := flat_rep (enc := encC) c0 n
        rw [← this]
    have f2 : Fr [] h ((h.push (.cells (repL zc n) false false 5)).push (.cells [.slice (some ⟨h.n, 0, none⟩) n n, .int .i64 0] false false 2)) := (Fr.push _ _ _).trans (Fr.push _ _ _)
    exact w.fresh f2.n (fun b hb => f2.g b hb (by simp)) (fun b hb => by rcases hb with rfl | rfl <;> omega) hm.live fun h'' hg => hm.same2 hg
end
end Tab
end Go.Lg.Tryz
