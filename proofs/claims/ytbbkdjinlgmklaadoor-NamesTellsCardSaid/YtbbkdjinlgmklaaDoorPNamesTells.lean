/- NamesTells: names and paths are taken apart and put together as the document says. -/
import Derived.Test.YtbbkdjinlgmklaaDoorPnames5
import Derived.Test.YtbbkdjinlgmklaaDoorFlaw21
namespace Go.Lg.Tryd
set_option linter.unusedVariables false
set_option linter.unusedSimpArgs false
open Go Go.Proofs
def goodS (s : ByteArray) : Prop := s.size ≤ maxLen
theorem beq_self (b : Bool) : (b == b) = true := by cases b <;> rfl
theorem Tells.main (h : AH) (s : ByteArray) (w0 : s.size ≤ maxLen) (t : ByteArray) (w1 : t.size ≤ maxLen) {a : Option Addr} {n c : Nat} {l : List ByteArray} (sl : SlIn h encS goodS a n c l) :
    Ok (C k_law21_NamesTells [.string s, .string t, .slice a n c] h) fun v _ => v = .bool true := by
  have hm : maxLen = 9223372036854775807 := by decide
  have hz : ∀ x ∈ l, x.size < 9223372036854775808 := fun x hx => by have : x.size ≤ maxLen := sl.good x hx; omega
  refine Ok.le ?_ law21_NamesTells_le
  unfold F_law21_NamesTells
  have aw : ∀ h, C k_law21_awake [] h = some (.bool true, h) := fun h => C_closed (show closedL.any (Nat.beq k_law21_awake) = true from rfl) h
  by_cases hl : 100 < n
  · rw [dec_t (by omega), cond_t, aw]
    simp only [Option.bind_some, asB_b]
    exact Ok.le (Ok.some rfl) law21_NamesTells_j9_le
  · rw [dec_f (by omega), cond_f]
    refine Ok.le ?_ law21_NamesTells_j8_le
    have hln := sl.len
    refine Ok.bind (copyT_ok c sl.rd sl.len (by omega)) ?_
    rintro v1 h1 ⟨f1, a1, c1, rfl, o1⟩
    simp only [asS_s, Option.bind_some]
    have s1 := ow_sl o1 (by omega)
    refine Ok.bind (nSplit_ok s h1) ?_
    rintro v2 h2 ⟨f2, q2⟩
    obtain ⟨b2, d2, xs, e2, rfl, sl2, hs2, x16⟩ := q2.uni
    simp only [asTu_t, hdO_c, asS_s, asI_i64, Option.bind_some, List.isEmpty_nil, cond_t]
    refine Ok.le ?_ law21_NamesTells_j7_le
    refine Ok.bind (rSplit_ok s h2) ?_
    rintro v3 h3 ⟨f3, q3⟩
    obtain ⟨b3, d3, ys, e3, rfl, sl3, hs3, y16⟩ := q3.uni
    simp only [asTu_t, hdO_c, asS_s, asI_i64, Option.bind_some, List.isEmpty_nil, cond_t]
    have g3 := f1.trans (f2.trans f3)
    refine Ok.le ?_ law21_NamesTells_j6_le
    have s3 := s1.fr (f2.trans f3)
    rw [nJoin_eq s3.rd s3.nn s3.len s3.le (by omega), joinV_eq]
    simp only [asTu_t, hdO_c, asStr_s, asI_i64, Option.bind_some, List.isEmpty_nil, cond_t]
    refine Ok.le ?_ law21_NamesTells_j5_le
    have rl : Rd h3 a (l.flatMap encS) := sl.rd.fr g3 fun _ _ => by simp
    rw [rJoin_eq rl sl.len (by omega) hz, joinV_eq]
    simp only [asTu_t, hdO_c, asStr_s, asI_i64, Option.bind_some, List.isEmpty_nil, cond_t]
    refine Ok.le ?_ law21_NamesTells_j4_le
    refine Ok.bind (nUp_ok s h3) ?_
    rintro v4 h4 ⟨f4, rfl⟩
    simp only [asTu_t, hdO_c, asStr_s, asI_i64, Option.bind_some, List.isEmpty_nil, cond_t]
    refine Ok.le ?_ law21_NamesTells_j3_le
    refine Ok.bind (rUp_ok s h4) ?_
    rintro v5 h5 ⟨f5, rfl⟩
    simp only [asTu_t, hdO_c, asStr_s, asI_i64, Option.bind_some, List.isEmpty_nil, cond_t]
    refine Ok.le ?_ law21_NamesTells_j2_le
    have hxy := hs2.symm.trans hs3
    have hx1 : xs = ys := map_inj.mp (congrArg Prod.fst hxy)
    have hx2 : e2 = e3 := congrArg Prod.snd hxy
    subst hx1 hx2
    have sx := sl2.fr (f3.trans (f4.trans f5))
    have sy := sl3.fr (f4.trans f5)
    rw [sameT_eq _ _ sx.rd sy.rd rfl rfl (by omega)]
    simp only [Option.bind_some, asB_b, seqB_dec]
    simp only [dec_T, cond_t, name_eq, rname_eq s h5 (by omega), Option.bind_some, asB_b, beq_self]
    refine Ok.bind (nWithin_ok s t h5) ?_
    rintro v6 h6 ⟨f6, rfl⟩
    simp only [asB_b, Option.bind_some]
    refine Ok.bind (rWithin_ok s t h6) ?_
    rintro v7 h7 ⟨f7, rfl⟩
    simp only [asB_b, Option.bind_some, beq_self, cond_t]
    have g7 := f4.trans (f5.trans (f6.trans f7))
    rw [sameT_eq _ _ (s3.fr g7).rd (rl.fr g7 fun _ _ => by simp) rfl sl.len (by omega)]
    simp only [Option.bind_some, asB_b]
    simp only [dec_T, cond_t, aw, Option.bind_some, asB_b]
    exact Ok.le (Ok.some rfl) law21_NamesTells_j1_le
end Go.Lg.Tryd
