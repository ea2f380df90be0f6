/- Tables: what the calls tell and leave, over a list of keys and values in order. -/
import Derived.Test.YtciiigaagggefaaGreatPuI
namespace Go.Lg.Tryz
set_option linter.unusedVariables false
set_option linter.unusedSimpArgs false
open Go Go.Proofs
namespace Tab
section
variable {h : AH} {x t base n b : Nat} {N : MD} {l : List Pr} {F : List Asr} {key : ByteArray}
abbrev aTb (t : Nat) (N : MD) (base n : Nat) (l : List Pr) : Asr := aTab t N base n (Tb l n)
theorem pad_Tb (l : List Pr) (n : Nat) : padE (l.map toE) n = Tb l n := by unfold Tb padE; rw [List.length_map]
theorem loadP (hs : Srt l) (hl : l.length ≤ n) (hn : 0 < n) (w : H h (aX x t base n :: aTb t N base n l :: F)) : Ok (C k_table_Table_load [ptr x] h) fun v h' =>
    ∃ b, v = .tuple #[.slice (some ⟨b, 0, none⟩) (l.map toE).length opn, .int .i64 0] ∧ H h' (aLs b n (l.map toE) :: aX x t base n :: aTb t N base n l :: F) := by
  refine Ok.mono (load_ok hn w) ?_
  rintro v h' (⟨hR, b, rfl, w'⟩ | ⟨hR, rfl, w'⟩)
  · rw [used_Tb] at w' ⊢
    exact ⟨b, rfl, w'⟩
  · rw [right_Tb hs hl] at hR; cases hR
theorem findP (hs : Srt l) (hl : l.length < 1000000) (w : H h (aLs b n (l.map toE) :: F)) (key : ByteArray) : Ok (C k_table_find [.slice (some ⟨b, 0, none⟩) (l.map toE).length opn, .string key] h) fun v h' =>
    v = .tuple #[.int .i64 ((pos l key : Nat) : Int), .bool (hit l key)] ∧ H h' (aLs b n (l.map toE) :: F) := by
  refine Ok.mono (find_ok (by rw [List.length_map]; exact hl) (ls_rd w)) ?_
  rintro v h' ⟨i, q, rfl, f⟩
  obtain rfl := bs_pos hs q
  exact ⟨by rw [hit_eq], w.fr f⟩
theorem getP_ok (hs : Srt l) (hl : l.length ≤ n) (hn : 0 < n) (key : ByteArray) (w : H h (aX x t base n :: aTb t N base n l :: F)) : Ok (C k_table_Table_Get [ptr x, .string key] h) fun v h' =>
    v = .tuple #[.string (getP l key), .bool (hit l key), .int .i64 0] ∧ H h' (aX x t base n :: aTb t N base n l :: F) := by
  obtain ⟨_, _, hb3, _⟩ := tab_le w.u1
  refine Ok.le ?_ table_Table_Get_le
  refine Ok.bind (loadP hs hl hn w) ?_
  rintro _ h2 ⟨b, rfl, w2⟩
  simp only [asTu_t, Option.bind_some, hdO_c, asS_s, asI_i64, List.isEmpty_nil, cond_t]
  refine Ok.bind (findP hs (by omega) w2 key) ?_
  rintro _ h3 ⟨rfl, w3⟩
  simp only [asTu_t, Option.bind_some, hdO_c, asB_b, asI_i64, List.isEmpty_nil, cond_t]
  cases hh : hit l key with
  | false =>
    rw [cond_f]
    refine Ok.le ?_ table_Table_Get_j1_le
    refine Ok.some ⟨?_, w3.drop⟩
    have : getP l key = ByteArray.mk #[] := by
      unfold getP
      unfold hit at hh
      cases hp : l[pos l key]? with
      | none => rfl
      | some p => rw [hp] at hh; simp only at hh ⊢; rw [hh]; rfl
    rw [this]
  | true =>
    obtain ⟨v, hv⟩ := hit_iff.mp hh
    have hlt := (List.getElem?_eq_some_iff.mp hv).1
    rw [cond_t]
    have hm : (l.map toE)[pos l key]? = some (toE (key, v)) := by rw [List.getElem?_map, hv]; rfl
    obtain ⟨ad, ea, e1, e2, e3⟩ := rd3 (ls_rd w3) hm
    obtain rfl := Option.some.inj ea
    simp only [Option.bind_some, inB_t (show (0 : Int) ≤ ((pos l key : Nat) : Int) by omega) (show ((pos l key : Nat) : Int) < (((l.map toE).length : Nat) : Int) by rw [List.length_map]; omega), cond_t, Int.toNat_natCast, e3]
    refine Ok.some ⟨?_, w3.drop⟩
    have : getP l key = v := by
      unfold getP
      rw [hv]
      simp only
      rw [if_pos (seqB_iff.mpr rfl)]
    rw [this]
theorem saveP {l2 : List Pr} (hl2 : l2.length ≤ n) {m : Nat} (hm : m = (l2.map toE).length) (w : H h (aLs b n (l2.map toE) :: aX x t base n :: aTb t N base n l :: F)) : Ok (C k_table_Table_save [ptr x, .slice (some ⟨b, 0, none⟩) m opn] h) fun v h' =>
    v = .int .i64 0 ∧ H h' (aX x t base n :: aTb t N base n l2 :: F) := by
  subst hm
  have w1 : H h (aX x t base n :: aTb t N base n l :: aLs b n (l2.map toE) :: F) := w.pm [1, 2, 0]
  refine Ok.mono (save_ok (by rw [List.length_map]; exact hl2) (fun h' w' => ls_rd w') w1) ?_
  rintro v h' ⟨rfl, w'⟩
  rw [pad_Tb] at w'
  exact ⟨rfl, w'.rm 2 rfl⟩
theorem putP_ok (hs : Srt l) (hl : l.length ≤ n) (hn : 0 < n) (key v : ByteArray) (w : H h (aX x t base n :: aTb t N base n l :: F)) : Ok (C k_table_Table_Put [ptr x, .string key, .string v] h) fun y h' =>
    y = .int .i64 (putP l n key v).2 ∧ H h' (aX x t base n :: aTb t N base n (putP l n key v).1 :: F) := by
  obtain ⟨_, _, hb3, _⟩ := tab_le w.u1
  have hpl := put_len hs hl key v
  refine Ok.le ?_ table_Table_Put_le
  refine Ok.bind (loadP hs hl hn w) ?_
  rintro _ h2 ⟨b, rfl, w2⟩
  simp only [asTu_t, Option.bind_some, hdO_c, asS_s, asI_i64, List.isEmpty_nil, cond_t, decide_true, Bool.not_true, cond_f]
  refine Ok.le ?_ table_Table_Put_j2_le
  refine Ok.bind (findP hs (by omega) w2 key) ?_
  rintro _ h3 ⟨rfl, w3⟩
  simp only [asTu_t, Option.bind_some, hdO_c, asB_b, asI_i64, List.isEmpty_nil, cond_t]
  have fin : ∀ (h4 : AH) (l2 : List Pr) (m : Nat), l2.length ≤ n → m = (l2.map toE).length → H h4 (aLs b n (l2.map toE) :: aX x t base n :: aTb t N base n l :: F) → Ok (table_Table_Put_j1 (some ⟨x, 0, none⟩) (some ⟨b, 0, none⟩) m opn h4) fun y h' =>
      y = .int .i64 0 ∧ H h' (aX x t base n :: aTb t N base n l2 :: F) := fun h4 l2 m h1 h2 w4 => by
    refine Ok.le ?_ table_Table_Put_j1_le
    refine Ok.bind (saveP h1 h2 w4) ?_
    rintro _ h5 ⟨rfl, w5⟩
    simp only [asI_i64, Option.bind_some]
    exact Ok.some ⟨rfl, w5⟩
  cases hh : hit l key with
  | true =>
    obtain ⟨v0, hv⟩ := hit_iff.mp hh
    have hlt := (List.getElem?_eq_some_iff.mp hv).1
    have hP : putP l n key v = (l.set (pos l key) (key, v), 0) := by unfold putP; rw [if_pos hh]
    rw [hP, cond_t]
    have hm : (l.map toE)[pos l key]? = some (toE (key, v0)) := by rw [List.getElem?_map, hv]; rfl
    obtain ⟨h4, k1, w4⟩ := ls_set w3 hm v
    simp only [Option.bind_some, inB_t (show (0 : Int) ≤ ((pos l key : Nat) : Int) by omega) (show ((pos l key : Nat) : Int) < (((l.map toE).length : Nat) : Int) by rw [List.length_map]; omega), cond_t, Int.toNat_natCast, k1]
    have hset : (l.map toE).set (pos l key) ⟨(toE (key, v0)).u, (toE (key, v0)).k, v⟩ = (l.set (pos l key) (key, v)).map toE := by rw [List.map_set]
    rw [hset] at w4
    exact fin h4 _ _ (by rw [List.length_set]; exact hl) (by simp) w4
  | false =>
    rw [cond_f]
    have gx := w3.g 1 rfl
    simp only [Option.bind_some, AH.ldI_of gx (o := 0 + 2) rfl]
    by_cases hf : l.length = n
    · have hP : putP l n key v = (l, 5) := by unfold putP; rw [if_neg (by rw [hh]; decide), if_pos hf]
      rw [hP, dec_t (by rw [List.length_map, hf]), cond_t]
      exact Ok.some ⟨rfl, w3.drop⟩
    · have hP : putP l n key v = (l.take (pos l key) ++ (key, v) :: l.drop (pos l key), 0) := by unfold putP; rw [if_neg (by rw [hh]; decide), if_neg hf]
      rw [hP] at hpl
      rw [hP, dec_f (by rw [List.length_map]; omega), cond_f]
      have w4 := w3.push (.cells [.bool true, .string key, .string v] false false 3)
      have w5 : H _ (aLs b n (l.map toE) :: Cs h3.n (cE (toE (key, v))) 3 :: aX x t base n :: aTb t N base n l :: F) := w4.u1
      have hle := (pos_ok (key := key) hs).le
      obtain ⟨h6, k1, w6⟩ := ls_ins (i := pos l key) (by rw [List.length_map]; exact hle) (by rw [List.length_map]; omega) hb3 w5
      simp only [k1, Option.bind_some, asS_s]
      have hmm : (l.map toE).take (pos l key) ++ toE (key, v) :: (l.map toE).drop (pos l key) = (l.take (pos l key) ++ (key, v) :: l.drop (pos l key)).map toE := by simp
      rw [hmm] at w6
      exact fin h6 _ _ hpl (by rw [← hmm]; simp; omega) (w6.rm 1 rfl)
theorem remP_ok (hs : Srt l) (hl : l.length ≤ n) (hn : 0 < n) (key : ByteArray) (w : H h (aX x t base n :: aTb t N base n l :: F)) : Ok (C k_table_Table_Remove [ptr x, .string key] h) fun y h' =>
    y = .tuple #[.bool (hit l key), .int .i64 0] ∧ H h' (aX x t base n :: aTb t N base n (remP l key) :: F) := by
  obtain ⟨_, _, hb3, _⟩ := tab_le w.u1
  refine Ok.le ?_ table_Table_Remove_le
  refine Ok.bind (loadP hs hl hn w) ?_
  rintro _ h2 ⟨b, rfl, w2⟩
  simp only [asTu_t, Option.bind_some, hdO_c, asS_s, asI_i64, List.isEmpty_nil, cond_t]
  refine Ok.bind (findP hs (by omega) w2 key) ?_
  rintro _ h3 ⟨rfl, w3⟩
  simp only [asTu_t, Option.bind_some, hdO_c, asB_b, asI_i64, List.isEmpty_nil, cond_t]
  cases hh : hit l key with
  | false =>
    rw [Bool.not_false, cond_t]
    have hP : remP l key = l := by unfold remP; rw [if_neg (by rw [hh]; decide)]
    rw [hP]
    exact Ok.some ⟨rfl, w3.drop⟩
  | true =>
    rw [Bool.not_true, cond_f]
    have hP : remP l key = l.eraseIdx (pos l key) := by unfold remP; rw [if_pos hh]
    have hlen := rem_len hl key
    rw [hP] at hlen ⊢
    obtain ⟨v0, hv⟩ := hit_iff.mp hh
    have hlt := (List.getElem?_eq_some_iff.mp hv).1
    refine Ok.le ?_ table_Table_Remove_j2_le
    rw [show IntKind.wrap .i64 (((pos l key : Nat) : Int) + 1) = ((pos l key + 1 : Nat) : Int) by rw [wrap64 (by omega) (by omega)]; omega]
    obtain ⟨h4, k1, w4⟩ := ls_del (i := pos l key) (by rw [List.length_map]; exact hlt) (by rw [List.length_map]; exact hl) hb3 w3
    simp only [k1, Option.bind_some, asS_s]
    have hmm : (l.map toE).eraseIdx (pos l key) = (l.eraseIdx (pos l key)).map toE := by simp [List.eraseIdx_eq_take_drop_succ, List.map_take, List.map_drop]
    rw [hmm] at w4
    refine Ok.bind (saveP hlen (by rw [List.length_map, List.length_map, List.length_eraseIdx, if_pos hlt]) w4) ?_
    rintro _ h5 ⟨rfl, w5⟩
    simp only [asI_i64, Option.bind_some, decide_true, Bool.not_true, cond_f]
    refine Ok.le ?_ table_Table_Remove_j1_le
    exact Ok.some ⟨rfl, w5⟩
theorem listP_ok (hs : Srt l) (hl : l.length ≤ n) (hn : 0 < n) (w : H h (aX x t base n :: aTb t N base n l :: F)) : Ok (C k_table_Table_List [ptr x] h) fun v h' =>
    ∃ b, v = .tuple #[.slice (some ⟨b, 0, none⟩) (l.map toE).length opn, .int .i64 0] ∧ H h' (aLs b n (l.map toE) :: aX x t base n :: aTb t N base n l :: F) := by
  refine Ok.mono (list_ok hn w) ?_
  rintro v h' (⟨hR, b, rfl, w'⟩ | ⟨hR, rfl, w'⟩)
  · rw [used_Tb] at w' ⊢
    exact ⟨b, rfl, w'⟩
  · rw [right_Tb hs hl] at hR; cases hR
end
end Tab
end Go.Lg.Tryz
