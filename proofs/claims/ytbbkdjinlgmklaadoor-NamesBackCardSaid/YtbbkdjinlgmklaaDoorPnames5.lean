/- Names and paths: the plain answers, over lists of bytes. -/
import Derived.Test.YtbbkdjinlgmklaaDoorEv39
import Derived.Test.YtbbkdjinlgmklaaDoorFnames
import Derived.Test.YtbbkdjinlgmklaaDoorFref21
import Derived.Test.YtbbkdjinlgmklaaDoorFstrings
import Derived.Test.YtbbkdjinlgmklaaDoorFslices
import Derived.Test.YtbbkdjinlgmklaaDoorFkit
import Derived.Test.YtbbkdjinlgmklaaDoorEv38
set_option linter.unusedVariables false
set_option linter.unusedSimpArgs false
namespace Go.Lg
set_option linter.unusedVariables false
set_option linter.unusedSimpArgs false
open Go

abbrev tl (s : ByteArray) : List UInt8 := s.data.toList
def BA (l : List UInt8) : ByteArray := ⟨l.toArray⟩
theorem tl_BA (l : List UInt8) : tl (BA l) = l := rfl
theorem tl_inj {a b : ByteArray} (h : tl a = tl b) : a = b := by
  obtain ⟨⟨a⟩⟩ := a; obtain ⟨⟨b⟩⟩ := b; simp only [tl] at h; rw [h]
theorem BA_tl (s : ByteArray) : BA (tl s) = s := rfl
theorem tl_app (a b : ByteArray) : tl (a ++ b) = tl a ++ tl b := by simp [tl, ByteArray.data_append]
theorem tl_len (s : ByteArray) : (tl s).length = s.size := rfl
theorem seqB_dec (a b : ByteArray) : seqB a b = decide (tl a = tl b) := by
  cases h : seqB a b with
  | true => rw [seqB_iff.mp h]; simp
  | false =>
    symm; rw [decide_eq_false_iff_not]; intro e
    rw [seqB_iff.mpr (tl_inj e)] at h; cases h

def okB (b : UInt8) : Bool := !badR b.toNat
theorem okB_iff (b : UInt8) : okB b = true ↔ b ≠ 0 ∧ b ≠ 47 := by
  have h0 : b = 0 ↔ b.toNat = 0 := ⟨fun h => by rw [h]; rfl, fun h => UInt8.toNat_inj.mp h⟩
  have h1 : b = 47 ↔ b.toNat = 47 := ⟨fun h => by rw [h]; rfl, fun h => UInt8.toNat_inj.mp h⟩
  rw [Ne, Ne, h0, h1]
  unfold okB badR
  cases e1 : Nat.beq b.toNat 0 with
  | true => have := Nat.eq_of_beq_eq_true e1; simp [this]
  | false =>
    have n1 : b.toNat ≠ 0 := fun h => by rw [h] at e1; cases e1
    cases e2 : Nat.beq b.toNat 47 with
    | true => have := Nat.eq_of_beq_eq_true e2; simp [this]
    | false =>
      have n2 : b.toNat ≠ 47 := fun h => by rw [h] at e2; cases e2
      simp [n1, n2]

theorem decode_tail (s : ByteArray) (pos : Nat) (h : pos < s.size) (ha : ¬ (s[pos]'h).toNat < 128) : ∀ j, pos < j → j < pos + (Utf8.decode s pos).2 → 128 ≤ (s.get! j).toNat := by
  intro j h1 h2
  obtain ⟨m, rfl⟩ : ∃ m, j = pos + m := ⟨j - pos, by omega⟩
  have hc : ∀ k, (s.get! (pos + k)).toNat / 64 = 2 → 128 ≤ (s.get! (pos + k)).toNat := fun k h => by omega
  simp only [Utf8.decode, get_at s pos h, ha, if_false] at h2
  repeat' split at h2
  all_goals simp only [Bool.and_eq_true, decide_eq_true_eq, beq_iff_eq, Utf8.runeError] at *
  all_goals (rcases (by omega : m = 1 ∨ m = 2 ∨ m = 3) with rfl | rfl | rfl <;> first | omega | (apply hc; omega))

theorem get_bang (s : ByteArray) (j : Nat) (h : j < s.size) : s.get! j = s[j]'h := get_at s j h
theorem idx_from (s : ByteArray) : ∀ f pos, s.size ≤ pos + f → (Lib.idxFuncFrom badR true s f pos < 0 ↔ ∀ j, pos ≤ j → (h : j < s.size) → okB (s[j]'h) = true)
  | 0, pos, hf => by
    simp only [Lib.idxFuncFrom]
    exact ⟨fun _ j h1 h2 => by omega, fun _ => by omega⟩
  | f + 1, pos, hf => by
    unfold Lib.idxFuncFrom
    by_cases hp : pos < s.size
    · rw [if_pos hp]
      by_cases ha : (s[pos]'hp).toNat < 128
      · rw [decode_ascii s pos hp ha]
        by_cases hb : badR (s[pos]'hp).toNat = true
        · rw [if_pos hb]
          refine ⟨fun h => by omega, fun h => ?_⟩
          have := h pos (Nat.le_refl _) hp
          unfold okB at this; rw [hb] at this; cases this
        · rw [if_neg hb, idx_from s f (pos + 1) (by omega)]
          refine ⟨fun h j h1 h2 => ?_, fun h j h1 h2 => h j (by omega) h2⟩
          rcases Nat.lt_or_ge pos j with h3 | h3
          · exact h j h3 h2
          · obtain rfl : j = pos := by omega
            unfold okB; rw [Bool.not_eq_true] at hb; rw [hb]; rfl
      · have hh := decode_high s pos hp (by omega)
        have ht := decode_tail s pos hp ha
        have hb : badR (Utf8.decode s pos).1 = false := by
          unfold badR
          rw [Bool.or_eq_false_iff]
          exact ⟨Bool.eq_false_iff.2 fun e => by have := Nat.eq_of_beq_eq_true e; omega, Bool.eq_false_iff.2 fun e => by have := Nat.eq_of_beq_eq_true e; omega⟩
        have hk : ∀ j (h : j < s.size), 128 ≤ (s[j]'h).toNat → okB (s[j]'h) = true := fun j h h1 => (okB_iff _).mpr ⟨fun e => by rw [e] at h1; exact absurd h1 (by decide), fun e => by rw [e] at h1; exact absurd h1 (by decide)⟩
        rw [hb, if_neg (by simp), idx_from s f _ (by omega)]
        refine ⟨fun h j h1 h2 => ?_, fun h j h1 h2 => h j (by omega) h2⟩
        rcases Nat.lt_or_ge j (pos + (Utf8.decode s pos).2) with h3 | h3
        · rcases Nat.lt_or_ge pos j with h4 | h4
          · exact hk j h2 (by have := ht j h4 h3; rw [get_bang s j h2] at this; exact this)
          · obtain rfl : j = pos := by omega
            exact hk j h2 (by omega)
        · exact h j h3 h2
    · rw [if_neg hp]
      exact ⟨fun _ j h1 h2 => by omega, fun _ => by omega⟩
theorem idx_sign (s : ByteArray) : decide (Lib.idxFunc badR true s < 0) = (tl s).all okB := by
  have h1 : (Lib.idxFunc badR true s < 0) ↔ (tl s).all okB = true := by
    unfold Lib.idxFunc
    rw [idx_from s s.size 0 (by omega), List.all_eq_true]
    constructor
    · intro h b hb
      obtain ⟨j, hj, rfl⟩ := List.mem_iff_getElem.mp hb
      exact h j (Nat.zero_le _) hj
    · intro h j _ hj
      exact h _ (List.getElem_mem (l := tl s) hj)
  cases he : (tl s).all okB with
  | true => exact decide_eq_true (h1.mpr he)
  | false => exact decide_eq_false fun h => by rw [h1.mp h] at he; cases he

def nameL (l : List UInt8) : Bool := l.all okB && (decide (1 ≤ l.length) && (decide (l.length ≤ 60) && (!decide (l = [46]) && !decide (l = [46, 46]))))
theorem nameL_all {l : List UInt8} (h : nameL l = true) : ∀ b ∈ l, b ≠ 0 ∧ b ≠ 47 := by
  unfold nameL at h
  simp only [Bool.and_eq_true, List.all_eq_true] at h
  exact fun b hb => (okB_iff b).mp (h.1 b hb)
theorem nameL_free {l : List UInt8} (h : nameL l = true) : (47 : UInt8) ∉ l := fun hm => (nameL_all h _ hm).2 rfl
theorem nameL_pos {l : List UInt8} (h : nameL l = true) : 1 ≤ l.length ∧ l.length ≤ 60 := by
  unfold nameL at h
  simp only [Bool.and_eq_true, decide_eq_true_eq] at h
  exact ⟨h.2.1, h.2.2.1⟩

/-- the pieces between the strokes -/
def segs : List UInt8 → List (List UInt8)
  | [] => [[]]
  | b :: l => if b = 47 then [] :: segs l else match segs l with
    | [] => [[b]]
    | s :: r => (b :: s) :: r
theorem segs_cons (b : UInt8) (l : List UInt8) : segs (b :: l) = if b = 47 then [] :: segs l else match segs l with
    | [] => [[b]]
    | s :: r => (b :: s) :: r := rfl
theorem segs_free : ∀ {l : List UInt8}, (47 : UInt8) ∉ l → segs l = [l]
  | [], _ => rfl
  | b :: l, h => by
    rw [List.mem_cons, not_or] at h
    unfold segs
    rw [if_neg (Ne.symm h.1), segs_free h.2]
theorem segs_app : ∀ {a : List UInt8} (l : List UInt8), (47 : UInt8) ∉ a → segs (a ++ 47 :: l) = a :: segs l
  | [], l, _ => by simp [segs]
  | b :: a, l, h => by
    rw [List.mem_cons, not_or] at h
    show segs (b :: (a ++ 47 :: l)) = _
    rw [segs_cons, if_neg (Ne.symm h.1), segs_app l h.2]
theorem segs_len : ∀ l : List UInt8, (segs l).length = l.count 47 + 1
  | [] => rfl
  | b :: l => by
    have ih := segs_len l
    unfold segs
    by_cases hb : b = 47
    · subst hb; rw [if_pos rfl, List.length_cons, ih, List.count_cons_self]
    · rw [if_neg hb, List.count_cons_of_ne hb]
      cases hs : segs l with
      | nil => rw [hs] at ih; simp at ih
      | cons s r => rw [hs] at ih; simpa using ih
theorem ix_cases : ∀ (l : List UInt8) (k : Nat), ((47 : UInt8) ∉ l ∧ ixB l 47 k = -1) ∨ ∃ a r, l = a ++ 47 :: r ∧ (47 : UInt8) ∉ a ∧ ixB l 47 k = (k + a.length : Nat)
  | [], k => .inl ⟨by simp, rfl⟩
  | b :: l, k => by
    unfold ixB
    by_cases hb : b = 47
    · subst hb; exact .inr ⟨[], l, rfl, by simp, by simp⟩
    · rw [show (b == 47) = false from beq_eq_false_iff_ne.2 hb, cond_false]
      rcases ix_cases l (k + 1) with ⟨h1, h2⟩ | ⟨a, r, rfl, h1, h2⟩
      · exact .inl ⟨by rw [List.mem_cons, not_or]; exact ⟨Ne.symm hb, h1⟩, h2⟩
      · exact .inr ⟨b :: a, r, rfl, by rw [List.mem_cons, not_or]; exact ⟨Ne.symm hb, h1⟩, by rw [h2]; simp only [List.length_cons]; omega⟩

def joinS (l : List (List UInt8)) : List UInt8 := l.flatMap (fun s => 47 :: s)
theorem joinS_cons (s : List UInt8) (r : List (List UInt8)) : joinS (s :: r) = 47 :: (s ++ joinS r) := rfl
theorem joinS_segs : ∀ l : List UInt8, joinS (segs l) = 47 :: l
  | [] => rfl
  | b :: l => by
    have ih := joinS_segs l
    unfold segs
    by_cases hb : b = 47
    · subst hb; rw [if_pos rfl, joinS_cons, ih]; rfl
    · rw [if_neg hb]
      cases hs : segs l with
      | nil => rw [hs] at ih; cases ih
      | cons s r =>
        rw [hs, joinS_cons] at ih
        rw [joinS_cons]
        have := (List.cons.inj ih).2
        simp only [List.cons_append, this]
theorem segs_joinS : ∀ (s : List UInt8) (r : List (List UInt8)), (∀ x ∈ s :: r, (47 : UInt8) ∉ x) → segs (s ++ joinS r) = s :: r
  | s, [], h => by simp only [joinS, List.flatMap_nil, List.append_nil]; exact segs_free (h s (by simp))
  | s, t :: r, h => by
    rw [joinS_cons, segs_app _ (h s (by simp)), segs_joinS t r fun x hx => h x (List.mem_cons_of_mem _ hx)]
theorem joinS_join (s : List UInt8) (r : List (List UInt8)) : 47 :: Lib.join (s :: r) [47] = joinS (s :: r) := by
  rw [Lib.join_cons, joinS_cons]
  congr 2
theorem joinS_len (l : List (List UInt8)) (h : ∀ x ∈ l, x.length ≤ 60) : (joinS l).length ≤ 61 * l.length := by
  induction l with
  | nil => simp [joinS]
  | cons s r ih =>
    rw [joinS_cons]
    have h1 := h s (by simp)
    have h2 := ih fun x hx => h x (List.mem_cons_of_mem _ hx)
    simp only [List.length_cons, List.length_append]
    omega

/-- a path's names -/
def splitL (p : List UInt8) : Except Int (List (List UInt8)) :=
  if p = [47] then .ok [] else if p = [] ∨ 400 < p.length ∨ p.head? ≠ some 47 then .error 211
  else if 16 < (segs p.tail).length ∨ [] ∈ segs p.tail then .error 211 else if (segs p.tail).all nameL then .ok (segs p.tail) else .error 210
/-- the path of some names -/
def joinP (l : List (List UInt8)) : Except Int (List UInt8) :=
  if l.all nameL = false then .error 210 else if 16 < l.length then .error 211 else if 400 < (joinS l).length then .error 211 else .ok (if l = [] then [47] else joinS l)
theorem split_join {p : List UInt8} {a : List (List UInt8)} (h : splitL p = .ok a) : joinP a = .ok p ∧ a.all nameL = true ∧ a.length ≤ 16 := by
  unfold splitL at h
  split at h
  · rename_i e; cases h; subst e; exact ⟨by simp [joinP, joinS], rfl, by simp⟩
  · split at h
    · cases h
    · rename_i h1 h2
      simp only [not_or, Nat.not_lt, Decidable.not_not] at h2
      obtain ⟨h3, h4, h5⟩ := h2
      split at h
      · cases h
      · rename_i h6
        simp only [not_or, Nat.not_lt] at h6
        split at h
        · rename_i h7
          cases h
          obtain ⟨t, rfl⟩ : ∃ t, p = 47 :: t := by
            cases p with
            | nil => exact absurd rfl h3
            | cons b t => simp at h5; exact ⟨t, by rw [h5]⟩
          simp only [List.tail_cons] at *
          refine ⟨?_, h7, h6.1⟩
          unfold joinP
          rw [if_neg (by rw [h7]; simp), if_neg (by omega), joinS_segs, if_neg (by omega), if_neg (by intro e; have := segs_len t; rw [e] at this; simp at this)]
        · cases h
theorem join_split {l : List (List UInt8)} {p : List UInt8} (h : joinP l = .ok p) : splitL p = .ok l := by
  unfold joinP at h
  split at h
  · cases h
  · rename_i h1
    rw [Bool.not_eq_false] at h1
    split at h
    · cases h
    · rename_i h2
      split at h
      · cases h
      · rename_i h3
        cases h
        cases l with
        | nil => rfl
        | cons s r =>
          rw [if_neg (by simp)]
          rw [List.all_eq_true] at h1
          have hs := nameL_pos (h1 s (by simp))
          have hf : ∀ x ∈ s :: r, (47 : UInt8) ∉ x := fun x hx => nameL_free (h1 x hx)
          have ht : (joinS (s :: r)).tail = s ++ joinS r := rfl
          unfold splitL
          rw [if_neg (by
            rw [joinS_cons]; intro e
            have := congrArg List.length e
            simp at this
            have h0 := this.1
            rw [h0] at hs; simp at hs), if_neg (by
            rw [joinS_cons] at h3 ⊢
            simp only [List.head?_cons, not_or]
            exact ⟨by simp, by omega, by simp⟩), ht, segs_joinS s r hf, if_neg (by
            rw [not_or]
            exact ⟨by omega, fun hm => by have := nameL_pos (h1 [] hm); simp at this⟩), if_pos (by rw [List.all_eq_true]; exact h1)]
theorem joinP_front {l : List (List UInt8)} {p : List UInt8} (h : joinP l = .ok p) : ∃ q, joinP l.dropLast = .ok q := by
  unfold joinP at h
  split at h
  · cases h
  · rename_i h1
    rw [Bool.not_eq_false, List.all_eq_true] at h1
    split at h
    · cases h
    · rename_i h2
      split at h
      · cases h
      · rename_i h3
        refine ⟨if l.dropLast = [] then [47] else joinS l.dropLast, ?_⟩
        unfold joinP
        rw [if_neg (by rw [Bool.not_eq_false, List.all_eq_true]; exact fun x hx => h1 x (List.dropLast_subset _ hx)), if_neg (by rw [List.length_dropLast]; omega), if_neg (by
          rcases List.eq_nil_or_concat l with rfl | ⟨a, x, rfl⟩
          · simp [joinS]
          · rw [List.concat_eq_append] at h3 ⊢
            rw [List.dropLast_concat]
            unfold joinS at h3 ⊢
            rw [List.flatMap_append, List.length_append] at h3
            omega)]
end Go.Lg

namespace Go.Lg.Tryd
set_option linter.unusedVariables false
set_option linter.unusedSimpArgs false
open Go Go.Proofs
def encS (s : ByteArray) : List Value := [.string s]
theorem encS_len (s : ByteArray) : (encS s).length = 1 := rfl
theorem flatS (l : List ByteArray) : l.flatMap encS = l.map Value.string := by
  induction l with
  | nil => rfl
  | cons x l ih => rw [List.flatMap_cons, ih]; rfl
theorem flatS_len (l : List ByteArray) : (l.flatMap encS).length = l.length := by rw [flatS, List.length_map]
theorem rd_str {h : AH} {a : Option Addr} {l : List ByteArray} (hr : Rd h a (l.flatMap encS)) {i : Nat} {x : ByteArray} (hx : l[i]? = some x) : ∃ ad, a = some ad ∧ h.ldStr ad.block (ad.off + i * 1) = some x := by
  obtain ⟨ad, rfl, hrd⟩ := hr.some (by
    intro he
    have := congrArg List.length he
    rw [flatS_len] at this
    have h2 := (List.getElem?_eq_some_iff.mp hx).1
    simp only [List.length_nil] at this
    omega)
  refine ⟨ad, rfl, ?_⟩
  have := (hrd (i * 1)).2.2.2.1 x (by rw [flatS, List.getElem?_map, Nat.mul_one, hx]; rfl)
  exact this
def Nn (a : Option Addr) : Prop := a = none ∨ ∃ b o, a = some ⟨b, o, none⟩
/-- a slice of texts that may be read and cut -/
inductive SL (h : AH) : Option Addr → Nat → Nat → List ByteArray → Prop
  | nil : SL h none 0 0 []
  | fix {b o n c : Nat} {xs : List ByteArray} (hr : Rd h (some ⟨b, o, none⟩) (xs.flatMap encS)) (hl : n = xs.length) (hle : n ≤ c) (hc : c < opn) : SL h (some ⟨b, o, none⟩) n c xs
  | opn {b n : Nat} {xs : List ByteArray} {rest : List Value} (hb : h.get b = some (.cells (xs.flatMap encS ++ rest) true false 1)) (hl : n = xs.length) (hn : b < h.n) (hs : n ≤ 1000000) : SL h (some ⟨b, 0, none⟩) n Go.Lg.opn xs
namespace SL
variable {h : AH} {a : Option Addr} {n c : Nat} {xs : List ByteArray}
theorem rd (hs : SL h a n c xs) : Rd h a (xs.flatMap encS) := by
  cases hs with
  | nil => exact .inl rfl
  | fix hr _ _ _ => exact hr
  | opn hb hl hn => exact .inr ⟨_, _, _, _, _, rfl, hb, hn, fun k v hk => by rw [Nat.zero_add, List.getElem?_append_left (List.getElem?_eq_some_iff.mp hk).1]; exact hk⟩
theorem len (hs : SL h a n c xs) : n = xs.length := by
  cases hs with
  | nil => rfl
  | fix _ hl _ _ => exact hl
  | opn _ hl _ => exact hl
theorem nn (hs : SL h a n c xs) : Nn a := by
  cases hs with
  | nil => exact .inl rfl
  | fix _ hl _ _ => exact .inr ⟨_, _, rfl⟩
  | opn _ hl _ => exact .inr ⟨_, _, rfl⟩
theorem le (hs : SL h a n c xs) : n ≤ c := by
  cases hs with
  | nil => exact Nat.le_refl _
  | fix _ hl hle _ => exact hle
  | opn _ hl _ h2 => exact Nat.le_trans h2 (by decide)
theorem fr {h' : AH} (hs : SL h a n c xs) (hf : Fr [] h h') : SL h' a n c xs := by
  cases hs with
  | nil => exact .nil
  | fix hr hl hle hc => exact .fix (hr.fr hf fun _ _ => by simp) hl hle hc
  | opn hb hl hn h2 => exact .opn (by rw [hf.g _ hn (by simp)]; exact hb) hl (Nat.lt_of_lt_of_le hn hf.n) h2
theorem cut (hs : SL h a n c xs) {k : Nat} (hk : k ≤ n) {i : Int} (hi : i = k) : slcE 1 a n c none (some (.int .i64 i)) none h = some (.slice a k c, h) ∧ SL h a k c (xs.take k) := by
  subst hi
  have bn : ∀ (top d : Nat) (K : Nat → Res), k ≤ top → boundOf (some (.int .i64 (k : Int))) d top K = K k := fun top d K ht => by
    simp only [boundOf, inBe_t (show (0 : Int) ≤ (k : Int) by omega) (show (k : Int) ≤ (top : Nat) by omega), cond_t, Int.toNat_natCast]
  have rt : ∀ {a : Option Addr}, Rd h a (xs.flatMap encS) → Rd h a ((xs.take k).flatMap encS) := by
    intro a hr
    rcases hr with he | ⟨ad, cc, op, ro, e, rfl, h1, h2, h3⟩
    · refine .inl ?_
      rw [flatS] at he ⊢
      rw [List.map_take, he]; simp
    · refine .inr ⟨ad, cc, op, ro, e, rfl, h1, h2, fun j v hv => h3 j v ?_⟩
      rw [flatS] at hv ⊢
      rw [List.map_take, List.getElem?_take] at hv
      split at hv
      · exact hv
      · cases hv
  cases hs with
  | nil =>
    obtain rfl : k = 0 := by omega
    refine ⟨?_, by simpa using SL.nil⟩
    simp only [slcE, Nat.beq_refl, Bool.and_self, cond_t]
    rw [bn 0 0 _ (Nat.le_refl _)]; rfl
  | @fix b o _ _ _ hr hl hle hc =>
    refine ⟨?_, .fix (rt hr) (by rw [List.length_take]; omega) (by omega) hc⟩
    have hlt : Nat.blt c Go.Lg.opn = true := Nat.ble_eq_true_of_le hc
    simp only [slcE, hlt, cond_t]
    rw [bn c _ _ (by omega)]
    have : cond (Nat.beq 0 c) 0 (0 * 1) = 0 := by cases Nat.beq 0 c <;> rfl
    simp only [boundOf, this, Nat.add_zero, Nat.sub_zero]
  | @opn b _ _ rest hb hl hn h2 =>
    refine ⟨?_, .opn (rest := (xs.drop k).flatMap encS ++ rest) ?_ (by rw [List.length_take]; omega) hn (by omega)⟩
    · have hlt : Nat.blt Go.Lg.opn Go.Lg.opn = false := rfl
      have h10 : Nat.beq 1 0 = false := rfl
      simp only [slcE, hlt, cond_f, h10, hb, Nat.beq_refl, cond_t]
      rw [bn _ _ _ (by rw [List.length_append, flatS_len, Nat.sub_zero, Nat.div_one]; omega)]
      simp only [boundOf, Nat.zero_mul, Nat.sub_zero, Nat.add_zero]
    · rw [← List.append_assoc, ← List.flatMap_append, List.take_append_drop]; exact hb
end SL
theorem ow_sl {h : AH} {a : Option Addr} {n c : Nat} {xs : List ByteArray} (ho : Ow h 1 a n c (xs.flatMap encS)) (hs : n ≤ 1000000) : SL h a n c xs := by
  generalize he : xs.flatMap encS = cs at ho
  have hl := congrArg List.length he
  rw [flatS_len] at hl
  cases ho with
  | nil =>
    obtain rfl : xs = [] := List.eq_nil_of_length_eq_zero (by simpa using hl)
    exact .nil
  | mk hb h1 hn =>
    subst he
    exact .opn (rest := []) (by rw [List.append_nil]; exact hb) (by omega) hn hs
theorem push_str {h0 h : AH} {a : Option Addr} {n c : Nat} {xs : List ByteArray} (ho : Ow h 1 a n c (xs.flatMap encS)) (hf : Fr [] h0 h) (hb : ∀ b, blk a b → h0.n ≤ b) (hn : n ≤ 1000000) (s : ByteArray) :
    ∃ h' a' c', appE 1 16 (.slice a n c) (.slice (some ⟨h.n, 0, none⟩) 1 1) (h.push (.cells [.string s] false false 1)) = some (.slice a' (n + 1) c', h') ∧ Ow h' 1 a' (n + 1) c' ((xs ++ [s]).flatMap encS) ∧ Fr [] h0 h' ∧ ∀ b, blk a' b → h0.n ≤ b := by
  have f1 : Fr [] h (h.push (.cells [.string s] false false 1)) := .push _ _ _
  have ho2 := ho.fr f1 (fun _ _ => by simp)
  obtain ⟨h', e1, o1, n1, g1⟩ := ho2.app (by_ := 16) (newCells_one (AH.get_push_eq h _) rfl (c := 1)) rfl (by omega) (by omega) (by omega) (by omega)
  refine ⟨h', _, _, e1, ?_, ?_, ?_⟩
  · rw [List.flatMap_append]; exact o1
  · have hp := hf.trans f1
    refine ⟨by rw [n1]; exact Nat.le_succ_of_le hp.n, fun b h1 h2 => ?_⟩
    rw [g1 b (Nat.lt_of_lt_of_le h1 hp.n) (fun hk => by have := hb b hk; omega)]
    exact hp.g b h1 h2
  · intro b hk
    have : (h.push (.cells [.string s] false false 1)).n = b := hk
    rw [← this]
    exact Nat.le_trans hf.n (by show h.n ≤ h.n + 1; omega)

theorem name_eq (s : ByteArray) (h : AH) : C k_names_Name [.string s] h = some (.bool (nameL (tl s)), h) := by
  have hi : C k_strings_IndexFunc [.string s, fnV (some (k_names_Name_1, [], []))] h = some (.int .i64 (Lib.idxFunc badR true s), h) := C_lib rfl rfl
  refine names_Name_le _ ?_
  unfold F_names_Name
  simp only [hi, Option.bind_some, asI_i64, idx_sign, seqB_dec]
  have e1 : decide (tl s = tl ⟨#[]⟩) = !decide (1 ≤ (tl s).length) := by
    show decide (tl s = []) = _
    cases tl s with
    | nil => rfl
    | cons b l => simp
  have e2 : decide (((tl s).length : Int) ≤ 60) = decide ((tl s).length ≤ 60) := decide_eq_decide.mpr (by omega)
  have e3 : tl ⟨#[46]⟩ = [46] := rfl
  have e4 : tl ⟨#[46, 46]⟩ = [46, 46] := rfl
  rw [e1, e2, e3, e4]
  unfold nameL
  cases decide (1 ≤ (tl s).length) <;> cases decide ((tl s).length ≤ 60) <;> cases decide (tl s = [46]) <;> cases decide (tl s = [46, 46]) <;> cases (tl s).all okB <;> rfl
theorem rname_loop {s : ByteArray} {h : AH} (hs : s.size < 9223372036854775808) : ∀ (n i : Nat), (tl s).length - i = n → i ≤ (tl s).length → ((tl s).take i).all okB = true → ref21_Name_L1 s i h = some (.bool (nameL (tl s)), h) := by
  have hl : (tl s).length = s.size := rfl
  have hl2 : s.data.toList.length = (tl s).length := rfl
  intro n
  induction n with
  | zero =>
    intro i hn hi ht
    obtain rfl : i = (tl s).length := by omega
    rw [List.take_of_length_le (Nat.le_refl _)] at ht
    refine ref21_Name_L1_le _ ?_
    rw [dec_f (by omega), cond_f]
    refine ref21_Name_j1_le _ ?_
    have e1 : (!decide (((tl s).length : Int) < 1)) = decide (1 ≤ (tl s).length) := by
      rw [← decide_not]; exact decide_eq_decide.mpr (by omega)
    have e2 : decide (((tl s).length : Int) ≤ 60) = decide ((tl s).length ≤ 60) := decide_eq_decide.mpr (by omega)
    have e3 : tl ⟨#[46]⟩ = [46] := rfl
    have e4 : tl ⟨#[46, 46]⟩ = [46, 46] := rfl
    rw [e1, e2, seqB_dec, seqB_dec, e3, e4]
    unfold nameL
    rw [ht]
    cases decide (1 ≤ (tl s).length) <;> cases decide ((tl s).length ≤ 60) <;> cases decide (tl s = [46]) <;> cases decide (tl s = [46, 46]) <;> rfl
  | succ n ih =>
    intro i hn hi ht
    have hil : i < (tl s).length := by omega
    refine ref21_Name_L1_le _ ?_
    rw [dec_t (by omega), cond_t]
    refine ref21_Name_j3_le _ ?_
    have x1 : (tl s)[i]? = some ((tl s)[i]'hil) := List.getElem?_eq_getElem hil
    have hall : okB ((tl s)[i]'hil) = false → nameL (tl s) = false := fun hb => by
      unfold nameL
      have : (tl s).all okB = false := by rw [List.all_eq_false]; exact ⟨_, List.getElem_mem hil, by rw [hb]; simp⟩
      rw [this, Bool.false_and]
    generalize (tl s)[i]'hil = x at x1 hall
    rw [dec_t (by omega), cond_t]
    simp only [Int.toNat_natCast, x1, Option.bind_some]
    by_cases h0 : x = 0
    · rw [dec_t (by rw [h0]; rfl), cond_t, hall (by rw [h0]; rfl)]
    · rw [dec_f (by intro e; exact h0 (UInt8.toNat_inj.mp (by simpa using e))), cond_f, cond_t]
      by_cases h1 : x = 47
      · rw [dec_t (by rw [h1]; rfl), cond_t, hall (by rw [h1]; rfl)]
      · rw [dec_f (by intro e; exact h1 (UInt8.toNat_inj.mp (by simp; omega))), cond_f]
        refine ref21_Name_j2_le _ ?_
        rw [wrap64 (by omega) (by omega)]
        refine ih (i + 1) (by omega) (by omega) ?_
        rw [List.take_add_one, x1, List.all_append, ht]
        simp [(okB_iff x).mpr ⟨h0, h1⟩]
theorem rname_eq (s : ByteArray) (h : AH) (hs : s.size < 9223372036854775808) : C k_ref21_Name [.string s] h = some (.bool (nameL (tl s)), h) :=
  ref21_Name_le _ (rname_loop hs _ 0 rfl (Nat.zero_le _) rfl)

theorem map_inj {xs ys : List ByteArray} : xs.map tl = ys.map tl ↔ xs = ys := by
  constructor
  · intro h
    exact List.map_inj_right (f := tl) (fun a b h => tl_inj h) |>.mp h
  · intro h; rw [h]
/-- slices.Index -/
theorem sIndex_loop {h : AH} {a : Option Addr} {xs : List ByteArray} {s : ByteArray} (c : Nat) (hr : Rd h a (xs.flatMap encS)) (hb : xs.length < 4611686018427387904) : ∀ (n i : Nat), xs.length - i = n → i ≤ xs.length → tl s ∉ (xs.take i).map tl →
    ∃ x : Int, slices_Index_string_string_L1 a xs.length s c xs.length i h = some (.int .i64 x, h) ∧ (!decide (x < 0)) = decide (tl s ∈ xs.map tl) := by
  intro n
  induction n with
  | zero =>
    intro i hn hi ht
    obtain rfl : i = xs.length := by omega
    rw [List.take_of_length_le (Nat.le_refl _)] at ht
    refine ⟨-1, ?_, by rw [dec_f ht]; rfl⟩
    refine slices_Index_string_string_L1_le _ ?_
    refine slices_Index_string_string_j4_le _ ?_
    rw [dec_f (by omega), cond_f]
    exact slices_Index_string_string_j1_le _ rfl
  | succ n ih =>
    intro i hn hi ht
    have hil : i < xs.length := by omega
    have x1 : xs[i]? = some (xs[i]'hil) := List.getElem?_eq_getElem hil
    have hm : xs[i]'hil ∈ xs := List.getElem_mem hil
    generalize xs[i]'hil = x at x1 hm
    obtain ⟨ad, rfl, e1⟩ := rd_str hr x1
    by_cases hx : s = x
    · subst hx
      refine ⟨i, ?_, by rw [dec_t (List.mem_map_of_mem (f := tl) hm), dec_f (by omega)]; rfl⟩
      refine slices_Index_string_string_L1_le _ ?_
      refine slices_Index_string_string_j4_le _ ?_
      rw [dec_t (by omega), cond_t]
      refine slices_Index_string_string_j3_le _ ?_
      simp only [Option.bind_some, inB_t (show (0 : Int) ≤ (i : Int) by omega) (show (i : Int) < (xs.length : Nat) by omega), cond_t, Int.toNat_natCast, e1, seqB_dec, decide_true]
    · obtain ⟨y, h1, h2⟩ := ih (i + 1) (by omega) (by omega) (by rw [List.take_add_one, x1, Option.toList_some, List.map_append, List.mem_append, not_or]; exact ⟨ht, by simp only [List.map_cons, List.map_nil, List.mem_singleton]; exact fun e => hx (tl_inj e)⟩)
      refine ⟨y, ?_, h2⟩
      refine slices_Index_string_string_L1_le _ ?_
      refine slices_Index_string_string_j4_le _ ?_
      rw [dec_t (by omega), cond_t]
      refine slices_Index_string_string_j3_le _ ?_
      have : decide (tl s = tl x) = false := decide_eq_false fun e => hx (tl_inj e)
      simp only [Option.bind_some, inB_t (show (0 : Int) ≤ (i : Int) by omega) (show (i : Int) < (xs.length : Nat) by omega), cond_t, Int.toNat_natCast, e1, seqB_dec, this, cond_f]
      refine slices_Index_string_string_j2_le _ ?_
      rw [wrap64 (by omega) (by omega)]
      exact h1
theorem contains_eq {h : AH} {a : Option Addr} {n : Nat} {xs : List ByteArray} (s : ByteArray) (c : Nat) (hr : Rd h a (xs.flatMap encS)) (hn : n = xs.length) (hb : xs.length < 4611686018427387904) :
    C k_slices_Contains_string_string [.slice a n c, .string s] h = some (.bool (decide (tl s ∈ xs.map tl)), h) := by
  subst hn
  obtain ⟨x, h1, h2⟩ := sIndex_loop (s := s) c hr hb _ 0 rfl (Nat.zero_le _) (by simp)
  refine slices_Contains_string_string_le _ ?_
  unfold F_slices_Contains_string_string
  have : C k_slices_Index_string_string [.slice a xs.length c, .string s] h = some (.int .i64 x, h) := slices_Index_string_string_le _ h1
  simp only [this, Option.bind_some, asI_i64, h2]
theorem sEqual_loop {h : AH} {a1 a4 : Option Addr} {l1 l2 : List ByteArray} (c3 c6 : Nat) (h1 : Rd h a1 (l1.flatMap encS)) (h2 : Rd h a4 (l2.flatMap encS)) (he : l1.length = l2.length) (hb : l1.length < 4611686018427387904) :
    ∀ (n i : Nat), l1.length - i = n → i ≤ l1.length → l1.take i = l2.take i → slices_Equal_string_string_L1 a1 l1.length a4 l2.length c6 c3 l1.length i h = some (.bool (decide (l1 = l2)), h) := by
  intro n
  induction n with
  | zero =>
    intro i hn hi ht
    obtain rfl : i = l1.length := by omega
    refine slices_Equal_string_string_L1_le _ ?_
    refine slices_Equal_string_string_j4_le _ ?_
    rw [dec_f (by omega), cond_f]
    refine slices_Equal_string_string_j1_le _ ?_
    rw [List.take_of_length_le (Nat.le_refl _), List.take_of_length_le (by omega)] at ht
    rw [dec_t ht]
  | succ n ih =>
    intro i hn hi ht
    have hil : i < l1.length := by omega
    refine slices_Equal_string_string_L1_le _ ?_
    refine slices_Equal_string_string_j4_le _ ?_
    rw [dec_t (by omega), cond_t]
    refine slices_Equal_string_string_j3_le _ ?_
    have x1 : l1[i]? = some (l1[i]'hil) := List.getElem?_eq_getElem hil
    have x2 : l2[i]? = some (l2[i]'(by omega)) := List.getElem?_eq_getElem (by omega)
    generalize l1[i]'hil = x at x1
    generalize l2[i]'(by omega) = y at x2
    obtain ⟨ad1, rfl, e1⟩ := rd_str h1 x1
    obtain ⟨ad2, rfl, e2⟩ := rd_str h2 x2
    simp only [Option.bind_some, inB_t (show (0 : Int) ≤ (i : Int) by omega) (show (i : Int) < (l1.length : Nat) by omega), inB_t (show (0 : Int) ≤ (i : Int) by omega) (show (i : Int) < (l2.length : Nat) by omega), cond_t, Int.toNat_natCast, e1, e2, seqB_dec]
    by_cases hxy : x = y
    · rw [dec_t (by rw [hxy]), Bool.not_true, cond_f]
      refine slices_Equal_string_string_j2_le _ ?_
      rw [wrap64 (by omega) (by omega)]
      exact ih (i + 1) (by omega) (by omega) (by rw [List.take_add_one, List.take_add_one, ht, x1, x2, hxy])
    · rw [dec_f (fun e => hxy (tl_inj e)), Bool.not_false, cond_t]
      have : l1 ≠ l2 := fun e => by rw [e, x2] at x1; exact hxy (Option.some.inj x1).symm
      rw [dec_f this]
theorem equal_eq {h : AH} {a1 a4 : Option Addr} {l1 l2 : List ByteArray} {n1 n2 : Nat} (c3 c6 : Nat) (h1 : Rd h a1 (l1.flatMap encS)) (h2 : Rd h a4 (l2.flatMap encS)) (e1 : n1 = l1.length) (e2 : n2 = l2.length) (hb : l1.length < 4611686018427387904) :
    C k_slices_Equal_string_string [.slice a1 n1 c3, .slice a4 n2 c6] h = some (.bool (decide (l1 = l2)), h) := by
  subst e1 e2
  refine slices_Equal_string_string_le _ ?_
  unfold F_slices_Equal_string_string
  by_cases he : (l1.length : Int) = (l2.length : Int)
  · rw [dec_t he, Bool.not_true, cond_f]
    refine slices_Equal_string_string_j5_le _ ?_
    exact sEqual_loop c3 c6 h1 h2 (by omega) hb _ 0 rfl (by omega) rfl
  · rw [dec_f he, Bool.not_false, cond_t]
    have : l1 ≠ l2 := fun e => he (by rw [e])
    rw [dec_f this]
theorem sameT_loop {h : AH} {a1 a4 : Option Addr} {l1 l2 : List ByteArray} (c3 c6 : Nat) (h1 : Rd h a1 (l1.flatMap encS)) (h2 : Rd h a4 (l2.flatMap encS)) (he : l1.length = l2.length) (hb : l1.length < 4611686018427387904) :
    ∀ (n i : Nat), l1.length - i = n → i ≤ l1.length → l1.take i = l2.take i → kit_SameTexts_L1 l1.length a1 a4 l2.length c6 c3 i h = some (.bool (decide (l1 = l2)), h) := by
  intro n
  induction n with
  | zero =>
    intro i hn hi ht
    obtain rfl : i = l1.length := by omega
    refine kit_SameTexts_L1_le _ ?_
    rw [dec_f (by omega), cond_f]
    refine kit_SameTexts_j1_le _ ?_
    rw [List.take_of_length_le (Nat.le_refl _), List.take_of_length_le (by omega)] at ht
    rw [dec_t ht]
  | succ n ih =>
    intro i hn hi ht
    have hil : i < l1.length := by omega
    refine kit_SameTexts_L1_le _ ?_
    rw [dec_t (by omega), cond_t]
    refine kit_SameTexts_j3_le _ ?_
    have x1 : l1[i]? = some (l1[i]'hil) := List.getElem?_eq_getElem hil
    have x2 : l2[i]? = some (l2[i]'(by omega)) := List.getElem?_eq_getElem (by omega)
    generalize l1[i]'hil = x at x1
    generalize l2[i]'(by omega) = y at x2
    obtain ⟨ad1, rfl, e1⟩ := rd_str h1 x1
    obtain ⟨ad2, rfl, e2⟩ := rd_str h2 x2
    simp only [Option.bind_some, inB_t (show (0 : Int) ≤ (i : Int) by omega) (show (i : Int) < (l1.length : Nat) by omega), inB_t (show (0 : Int) ≤ (i : Int) by omega) (show (i : Int) < (l2.length : Nat) by omega), cond_t, Int.toNat_natCast, e1, e2, seqB_dec]
    by_cases hxy : x = y
    · rw [dec_t (by rw [hxy]), Bool.not_true, cond_f]
      refine kit_SameTexts_j2_le _ ?_
      rw [wrap64 (by omega) (by omega)]
      exact ih (i + 1) (by omega) (by omega) (by rw [List.take_add_one, List.take_add_one, ht, x1, x2, hxy])
    · rw [dec_f (fun e => hxy (tl_inj e)), Bool.not_false, cond_t]
      have : l1 ≠ l2 := fun e => by rw [e, x2] at x1; exact hxy (Option.some.inj x1).symm
      rw [dec_f this]
theorem sameT_eq {h : AH} {a1 a4 : Option Addr} {l1 l2 : List ByteArray} {n1 n2 : Nat} (c3 c6 : Nat) (h1 : Rd h a1 (l1.flatMap encS)) (h2 : Rd h a4 (l2.flatMap encS)) (e1 : n1 = l1.length) (e2 : n2 = l2.length) (hb : l1.length < 4611686018427387904) :
    C k_kit_SameTexts [.slice a1 n1 c3, .slice a4 n2 c6] h = some (.bool (decide (l1 = l2)), h) := by
  subst e1 e2
  refine kit_SameTexts_le _ ?_
  unfold F_kit_SameTexts
  by_cases he : (l1.length : Int) = (l2.length : Int)
  · rw [dec_t he, Bool.not_true, cond_f]
    refine kit_SameTexts_j4_le _ ?_
    exact sameT_loop c3 c6 h1 h2 (by omega) hb _ 0 rfl (by omega) rfl
  · rw [dec_f he, Bool.not_false, cond_t]
    have : l1 ≠ l2 := fun e => he (by rw [e])
    rw [dec_f this]
theorem copyT_loop {h0 : AH} {a1 : Option Addr} {xs : List ByteArray} (c3 : Nat) (hr : Rd h0 a1 (xs.flatMap encS)) (hb : xs.length ≤ 1000) : ∀ (n i : Nat) (a : Option Addr) (c : Nat) (h : AH), xs.length - i = n → i ≤ xs.length → Fr [] h0 h →
    Ow h 1 a i c ((xs.take i).flatMap encS) → (∀ b, blk a b → h0.n ≤ b) →
    Ok (kit_CopyTexts_L1 xs.length a1 c3 a i c i h) fun v h' => Fr [] h0 h' ∧ ∃ a c, v = .slice a xs.length c ∧ Ow h' 1 a xs.length c (xs.flatMap encS) := by
  intro n
  induction n with
  | zero =>
    intro i a c h hn hi hf ho hk
    obtain rfl : i = xs.length := by omega
    refine Ok.le ?_ kit_CopyTexts_L1_le
    rw [dec_f (by omega), cond_f]
    refine Ok.le ?_ kit_CopyTexts_j1_le
    rw [List.take_of_length_le (Nat.le_refl _)] at ho
    exact Ok.some ⟨hf, _, _, rfl, ho⟩
  | succ n ih =>
    intro i a c h hn hi hf ho hk
    have hil : i < xs.length := by omega
    refine Ok.le ?_ kit_CopyTexts_L1_le
    rw [dec_t (by omega), cond_t]
    refine Ok.le ?_ kit_CopyTexts_j3_le
    have x1 : xs[i]? = some (xs[i]'hil) := List.getElem?_eq_getElem hil
    generalize xs[i]'hil = x at x1
    obtain ⟨ad1, rfl, e1⟩ := rd_str (hr.fr hf fun _ _ => by simp) x1
    simp only [Option.bind_some, inB_t (show (0 : Int) ≤ (i : Int) by omega) (show (i : Int) < (xs.length : Nat) by omega), cond_t, Int.toNat_natCast, e1]
    obtain ⟨h', a', c', e2, o2, f2, k2⟩ := push_str ho hf hk (by omega) x
    simp only [e2, Option.bind_some, asS_s]
    refine Ok.le ?_ kit_CopyTexts_j2_le
    rw [wrap64 (by omega) (by omega)]
    refine ih (i + 1) a' c' h' (by omega) (by omega) f2 ?_ k2
    rw [List.take_add_one, x1]; exact o2
theorem copyT_ok {h : AH} {a : Option Addr} {n : Nat} {xs : List ByteArray} (c : Nat) (hr : Rd h a (xs.flatMap encS)) (hn : n = xs.length) (hb : xs.length ≤ 1000) :
    Ok (C k_kit_CopyTexts [.slice a n c] h) fun v h' => Fr [] h h' ∧ ∃ a c, v = .slice a xs.length c ∧ Ow h' 1 a xs.length c (xs.flatMap encS) := by
  subst hn
  refine Ok.le ?_ kit_CopyTexts_le
  exact copyT_loop c hr hb _ 0 none 0 h rfl (Nat.zero_le _) (.refl _ _) .nil (fun b hb => by cases hb)
end Go.Lg.Tryd

namespace Go.Lg.Tryd
set_option linter.unusedVariables false
set_option linter.unusedSimpArgs false
open Go Go.Proofs
theorem setL_mid (l r : List Value) (x v : Value) : AH.setL (l ++ x :: r) l.length [v] = l ++ v :: r := by
  simp only [AH.setL]
  rw [List.set_append_right _ _ (Nat.le_refl _), Nat.sub_self]; rfl
theorem slcS_to (s : ByteArray) {k : Nat} (hk : k ≤ (tl s).length) {i : Int} (hi : i = k) (h : AH) : slcS s none (some (.int .i64 i)) h = some (.string (BA ((tl s).take k)), h) := by
  subst hi
  simp only [slcS, boundOf, inBe_t (show (0 : Int) ≤ (k : Int) by omega) (show (k : Int) ≤ (s.data.toList.length : Nat) by have : (tl s).length = s.data.toList.length := rfl; omega), cond_t, Int.toNat_natCast, List.drop_zero, Nat.sub_zero]
  rfl
theorem slcS_from (s : ByteArray) {k : Nat} (hk : k ≤ (tl s).length) {i : Int} (hi : i = k) (h : AH) : slcS s (some (.int .i64 i)) none h = some (.string (BA ((tl s).drop k)), h) := by
  subst hi
  have hl : (tl s).length = s.data.toList.length := rfl
  simp only [slcS, boundOf, inBe_t (show (0 : Int) ≤ (k : Int) by omega) (show (k : Int) ≤ (s.data.toList.length : Nat) by omega), cond_t, Int.toNat_natCast]
  rw [List.take_of_length_le (by rw [List.length_drop]; omega)]
  rfl
theorem slcS_both (s : ByteArray) {k m : Nat} (hk : k ≤ m) (hm : m ≤ (tl s).length) {i j : Int} (hi : i = k) (hj : j = m) (h : AH) : slcS s (some (.int .i64 i)) (some (.int .i64 j)) h = some (.string (BA (((tl s).drop k).take (m - k))), h) := by
  subst hi hj
  have hl : (tl s).length = s.data.toList.length := rfl
  simp only [slcS, boundOf, inBe_t (show (0 : Int) ≤ (m : Int) by omega) (show (m : Int) ≤ (s.data.toList.length : Nat) by omega), inBe_t (show (0 : Int) ≤ (k : Int) by omega) (show (k : Int) ≤ (m : Nat) by omega), cond_t, Int.toNat_natCast]
  rfl
theorem index_eq (s : ByteArray) (h : AH) : C k_strings_Index [.string s, .string ⟨#[47]⟩] h = some (.int .i64 (ixB (tl s) 47 0), h) := C_lib rfl rfl
theorem count_eq (s : ByteArray) (h : AH) : C k_strings_Count [.string s, .string ⟨#[47]⟩] h = some (.int .i64 ((tl s).count 47 : Nat), h) := C_lib rfl rfl

theorem gs_loop {B N : Nat} (hN : N ≤ 1000000) : ∀ (m : Nat) (s : ByteArray) (done : List ByteArray) (rest : List Value) (h : AH), (tl s).count 47 = m → (tl s).length ≤ 1000000 → N = done.length + m + 1 → rest.length = m + 1 →
    h.get B = some (.cells (done.flatMap encS ++ rest) false false 1) → B < h.n →
    Ok (strings_genSplit_L1 ⟨#[47]⟩ 0 s ((N : Int) - 1) (some ⟨B, 0, none⟩) N N (done.length : Nat) h) fun v h' => Fr [B] h h' ∧ ∃ xs, xs.map tl = segs (tl s) ∧ v = .slice (some ⟨B, 0, none⟩) (done ++ xs).length N ∧ SL h' (some ⟨B, 0, none⟩) (done ++ xs).length N (done ++ xs) := by
  intro m
  induction m with
  | zero =>
    intro s done rest h hc hs hNe hr hb hlt
    have hfree : (47 : UInt8) ∉ tl s := List.count_eq_zero.mp hc
    refine Ok.le ?_ strings_genSplit_L1_le
    rw [dec_f (by omega), cond_f]
    refine Ok.le ?_ strings_genSplit_j1_le
    obtain ⟨x, rfl⟩ : ∃ x, rest = [x] := by
      match rest, hr with
      | [x], _ => exact ⟨x, rfl⟩
    have hst : h.st B (0 + done.length * 1) [.string s] = some (h.set B (some (.cells (done.flatMap encS ++ [.string s]) false false 1))) := by
      have e1 : 0 + done.length * 1 = (done.flatMap encS).length := by rw [flatS_len]; omega
      rw [e1, AH.st_of hb (by simp), setL_mid]
    have hcut : SL (h.set B (some (.cells (done.flatMap encS ++ [.string s]) false false 1))) (some ⟨B, 0, none⟩) N N (done ++ [s]) :=
      .fix (.inr ⟨_, _, _, _, _, rfl, AH.get_set_eq _ _ _, hlt, fun k v hk => by
        rw [Nat.zero_add]
        rw [List.flatMap_append] at hk
        exact hk⟩) (by simp; omega) (Nat.le_refl _) (by unfold opn; omega)
    obtain ⟨c1, c2⟩ := hcut.cut (k := N) (Nat.le_refl _) (i := IntKind.wrap .i64 ((done.length : Int) + 1)) (by rw [wrap64 (by omega) (by omega)]; omega)
    simp only [Option.bind_some, inB_t (show (0 : Int) ≤ (done.length : Int) by omega) (show (done.length : Int) < (N : Nat) by omega), cond_t, Int.toNat_natCast, hst, c1, asS_s]
    refine Ok.some ⟨.set _ _ (by simp), [s], by rw [segs_free hfree]; rfl, by congr 1; simp; omega, ?_⟩
    have e2 : (done ++ [s]).length = N := by simp; omega
    rw [e2]; exact hcut
  | succ m ih =>
    intro s done rest h hc hs hNe hr hb hlt
    refine Ok.le ?_ strings_genSplit_L1_le
    rw [dec_t (by omega), cond_t]
    refine Ok.le ?_ strings_genSplit_j3_le
    rcases ix_cases (tl s) 0 with ⟨h1, _⟩ | ⟨a, r, he, h1, h2⟩
    · rw [List.count_eq_zero.mpr h1] at hc; cases hc
    · rw [index_eq]
      simp only [Option.bind_some, asI_i64, h2]
      rw [dec_f (by omega), cond_f]
      refine Ok.le ?_ strings_genSplit_j2_le
      have hl : (tl s).length = a.length + r.length + 1 := by rw [he]; simp; omega
      have t1 : (tl s).take a.length = a := by rw [he]; simp
      have t2 : (tl s).drop (a.length + 1) = r := by rw [he]; simp
      have hcr : r.count 47 = m := by
        rw [he, List.count_append, List.count_cons_self, List.count_eq_zero.mpr h1] at hc; omega
      rw [slcS_to s (k := a.length) (by omega) (by rw [wrap64 (by omega) (by omega)]; omega)]
      obtain ⟨x, rest', rfl⟩ : ∃ x r', rest = x :: r' := by
        match rest, hr with
        | x :: r', _ => exact ⟨x, r', rfl⟩
      have hst : h.st B (0 + done.length * 1) [.string (BA a)] = some (h.set B (some (.cells ((done ++ [BA a]).flatMap encS ++ rest') false false 1))) := by
        have e1 : 0 + done.length * 1 = (done.flatMap encS).length := by rw [flatS_len]; omega
        rw [e1, AH.st_of hb (by simp), setL_mid, List.flatMap_append]
        simp [encS]
      have e47 : ((⟨#[47]⟩ : ByteArray).data.toList.length : Int) = 1 := rfl
      simp only [Option.bind_some, asStr_s, inB_t (show (0 : Int) ≤ (done.length : Int) by omega) (show (done.length : Int) < (N : Nat) by omega), cond_t, Int.toNat_natCast, t1, hst]
      rw [slcS_from s (k := a.length + 1) (by omega) (by rw [e47, wrap64 (by omega) (by omega)]; omega)]
      simp only [Option.bind_some, asStr_s, t2]
      rw [wrap64 (by omega) (by omega), show (done.length : Int) + 1 = ((done ++ [BA a]).length : Nat) by simp]
      refine (ih (BA r) (done ++ [BA a]) rest' _ hcr (by show r.length ≤ _; omega) (by simp; omega) (by simpa using hr) (AH.get_set_eq _ _ _) hlt).mono ?_
      rintro v h' ⟨f1, xs, e1, e2, e3⟩
      refine ⟨(Fr.set h _ (by simp)).trans f1, BA a :: xs, ?_, ?_, ?_⟩
      · rw [List.map_cons, e1, he, segs_app r h1]; rfl
      · rw [e2]; simp
      · rw [List.append_assoc] at e3; simpa using e3
theorem repS (n : Nat) : repL [.string (ByteArray.mk #[])] n = List.replicate n (.string (ByteArray.mk #[])) := by
  induction n with
  | zero => rfl
  | succ n ih => simp only [repL, ih]; rfl
theorem sSplit_ok (s : ByteArray) (h : AH) (hs : (tl s).length ≤ 1000) : Ok (C k_strings_Split [.string s, .string ⟨#[47]⟩] h) fun v h' => Fr [] h h' ∧ ∃ a c xs, xs.map tl = segs (tl s) ∧ SL h' a xs.length c xs ∧ v = .slice a xs.length c := by
  refine Ok.le ?_ strings_Split_le
  unfold F_strings_Split
  refine Ok.bind (Q := fun v h' => Fr [] h h' ∧ ∃ a c xs, xs.map tl = segs (tl s) ∧ SL h' a xs.length c xs ∧ v = .slice a xs.length c) (Ok.le ?_ strings_genSplit_le) ?_
  · unfold F_strings_genSplit
    rw [dec_f (by omega), cond_f]
    refine Ok.le ?_ strings_genSplit_j6_le
    rw [show seqB (ByteArray.mk #[47]) (ByteArray.mk #[]) = false from rfl, cond_f]
    refine Ok.le ?_ strings_genSplit_j5_le
    rw [dec_t (by omega), cond_t, count_eq]
    simp only [Option.bind_some, asI_i64]
    refine Ok.le ?_ strings_genSplit_j4_le
    have hcl : (tl s).count 47 ≤ (tl s).length := List.count_le_length
    have hl2 : s.data.toList.length = (tl s).length := rfl
    rw [wrap64 (by omega) (by omega), wrap64 (by omega) (by omega), hl2, show decide (((tl s).length : Int) + 1 < (((tl s).count 47 : Nat) : Int) + 1) = false from dec_f (by omega)]
    simp only [cond_f]
    rw [dec_t (by omega), dec_t (by omega), dec_t (by omega), dec_t (by omega)]
    simp only [Bool.and_self, cond_t]
    have en : ((((tl s).count 47 : Nat) : Int) + 1).toNat = (tl s).count 47 + 1 := by omega
    rw [en, wrap64 (by omega) (by omega), repS]
    have := gs_loop (B := h.n) (N := (tl s).count 47 + 1) (by omega) ((tl s).count 47) s [] (List.replicate ((tl s).count 47 + 1) (.string (ByteArray.mk #[]))) (h.push (.cells (List.replicate ((tl s).count 47 + 1) (.string (ByteArray.mk #[]))) false false 1)) rfl (by omega) (by simp) (by simp) (by rw [AH.get_push_eq]; rfl) (by show h.n < h.n + 1; omega)
    rw [show ((((tl s).count 47 + 1 : Nat) : Int) - 1) = (((tl s).count 47 : Nat) : Int) + 1 - 1 by omega] at this
    refine this.mono ?_
    rintro v h' ⟨f, xs, e1, e2, e3⟩
    refine ⟨⟨Nat.le_trans (Nat.le_succ _) f.n, fun b h1 _ => ?_⟩, _, _, xs, e1, by simpa using e3, by simpa using e2⟩
    rw [f.g b (by show b < h.n + 1; omega) (by simp; omega)]
    exact AH.get_push_ne _ (by omega)
  · rintro v h' ⟨f, a, c, xs, e1, e2, rfl⟩
    simp only [asS_s, Option.bind_some]
    exact Ok.some ⟨f, a, c, xs, e1, e2, rfl⟩

/-- what Split tells -/
def SplitR (p : List UInt8) (v : Value) (h : AH) : Prop := (∃ e : Int, splitL p = .error e ∧ (e = 210 ∨ e = 211) ∧ v = .tuple #[.slice none 0 0, .int .i64 e]) ∨
  ∃ a c xs, splitL p = .ok (xs.map tl) ∧ xs.length ≤ 16 ∧ SL h a xs.length c xs ∧ v = .tuple #[.slice a xs.length c, .int .i64 0]
theorem nSplit_loop {h : AH} {a : Option Addr} {xs : List ByteArray} (c : Nat) (hr : Rd h a (xs.flatMap encS)) (hb : xs.length ≤ 1000) : ∀ (n i : Nat), xs.length - i = n → i ≤ xs.length → ((xs.map tl).take i).all nameL = true →
    names_Split_L1 a xs.length c xs.length i h = some (cond ((xs.map tl).all nameL) (.tuple #[.slice a xs.length c, .int .i64 0]) (.tuple #[.slice none 0 0, .int .i64 210]), h) := by
  intro n
  induction n with
  | zero =>
    intro i hn hi ht
    obtain rfl : i = xs.length := by omega
    rw [List.take_of_length_le (by simp)] at ht
    refine names_Split_L1_le _ ?_
    refine names_Split_j4_le _ ?_
    rw [dec_f (by omega), cond_f, ht, cond_t]
    exact names_Split_j1_le _ rfl
  | succ n ih =>
    intro i hn hi ht
    have hil : i < xs.length := by omega
    have x1 : xs[i]? = some (xs[i]'hil) := List.getElem?_eq_getElem hil
    generalize xs[i]'hil = x at x1
    have x2 : (xs.map tl)[i]? = some (tl x) := by rw [List.getElem?_map, x1]; rfl
    obtain ⟨ad, rfl, e1⟩ := rd_str hr x1
    refine names_Split_L1_le _ ?_
    refine names_Split_j4_le _ ?_
    rw [dec_t (by omega), cond_t]
    refine names_Split_j3_le _ ?_
    simp only [Option.bind_some, inB_t (show (0 : Int) ≤ (i : Int) by omega) (show (i : Int) < (xs.length : Nat) by omega), cond_t, Int.toNat_natCast, e1, name_eq, asB_b]
    cases hx : nameL (tl x) with
    | false =>
      have : (xs.map tl).all nameL = false := by rw [List.all_eq_false]; exact ⟨_, List.mem_of_getElem? x2, by rw [hx]; simp⟩
      rw [this]; rfl
    | true =>
      rw [Bool.not_true, cond_f]
      refine names_Split_j2_le _ ?_
      rw [wrap64 (by omega) (by omega)]
      exact ih (i + 1) (by omega) (by omega) (by rw [List.take_add_one, x2, List.all_append, ht]; simp [hx])
theorem nSplit_ok (s : ByteArray) (h : AH) : Ok (C k_names_Split [.string s] h) fun v h' => Fr [] h h' ∧ SplitR (tl s) v h' := by
  have hl2 : s.data.toList.length = (tl s).length := rfl
  refine Ok.le ?_ names_Split_le
  unfold F_names_Split
  rw [seqB_dec, show tl ⟨#[47]⟩ = [47] from rfl]
  by_cases h1 : tl s = [47]
  · rw [dec_t h1, cond_t]
    exact Ok.some ⟨.refl _ _, .inr ⟨none, 0, [], by rw [h1]; rfl, by simp, .nil, rfl⟩⟩
  · rw [dec_f h1, cond_f]
    refine Ok.le ?_ names_Split_j8_le
    have hbad : (tl s = [] ∨ 400 < (tl s).length ∨ (tl s).head? ≠ some 47) → Ok (names_Split_j7 h s true) fun v h' => Fr [] h h' ∧ SplitR (tl s) v h' := fun hb => by
      refine Ok.le ?_ names_Split_j7_le
      rw [cond_t]
      exact Ok.some ⟨.refl _ _, .inl ⟨211, by unfold splitL; rw [if_neg h1, if_pos hb], .inr rfl, rfl⟩⟩
    rw [seqB_dec, show tl ⟨#[]⟩ = [] from rfl]
    by_cases h2 : tl s = []
    · rw [dec_t h2, cond_t]; exact hbad (.inl h2)
    rw [dec_f h2, cond_f]
    by_cases h3 : 400 < (tl s).length
    · rw [dec_t (by omega), cond_t]; exact hbad (.inr (.inl h3))
    rw [dec_f (by omega), cond_f, dec_t (by omega), cond_t]
    obtain ⟨b, t, hbt⟩ : ∃ b t, tl s = b :: t := by
      cases hx : tl s with
      | nil => exact absurd hx h2
      | cons b t => exact ⟨b, t, rfl⟩
    have hy : s.data.toList[0]? = some b := by show (tl s)[0]? = _; rw [hbt]; rfl
    rw [hy]
    simp only [Option.bind_some]
    by_cases h4 : b = 47
    · subst h4
      rw [dec_t (by rfl), Bool.not_true]
      refine Ok.le ?_ names_Split_j7_le
      rw [cond_f]
      refine Ok.le ?_ names_Split_j6_le
      rw [slcS_from s (k := 1) (by rw [hbt]; simp) (by omega)]
      simp only [Option.bind_some, asStr_s]
      have h3' : t.length ≤ 1000 := by
        have e : (tl s).length = t.length + 1 := by rw [hbt]; rfl
        omega
      have ht : (tl s).drop 1 = t := by rw [hbt]; rfl
      rw [ht]
      have hsl : splitL (tl s) = if 16 < (segs t).length ∨ [] ∈ segs t then .error 211 else if (segs t).all nameL then .ok (segs t) else .error 210 := by
        unfold splitL
        rw [if_neg h1, if_neg (fun h => h.elim h2 fun h => h.elim h3 fun h => h (by rw [hbt]; rfl)), hbt]; rfl
      refine Ok.bind (sSplit_ok (BA t) h (by exact h3')) ?_
      rintro v h' ⟨f, a, c, xs, e1, e2, rfl⟩
      have e1 : xs.map tl = segs t := e1
      have el : xs.length = (segs t).length := by rw [← e1, List.length_map]
      simp only [asS_s, Option.bind_some]
      by_cases h5 : 16 < (segs t).length
      · rw [dec_t (by omega), cond_t]
        exact Ok.some ⟨f, .inl ⟨211, by rw [hsl, if_pos (.inl h5)], .inr rfl, rfl⟩⟩
      · rw [dec_f (by omega), cond_f, contains_eq _ _ e2.rd rfl (by omega)]
        simp only [Option.bind_some, asB_b, e1]
        rw [show tl ⟨#[]⟩ = [] from rfl]
        by_cases h6 : [] ∈ segs t
        · rw [dec_t h6, cond_t]
          exact Ok.some ⟨f, .inl ⟨211, by rw [hsl, if_pos (.inr h6)], .inr rfl, rfl⟩⟩
        · rw [dec_f h6, cond_f]
          refine Ok.le ?_ names_Split_j5_le
          refine Ok.eq (nSplit_loop c e2.rd (by omega) _ 0 rfl (Nat.zero_le _) rfl) ⟨f, ?_⟩
          rw [e1]
          cases h7 : (segs t).all nameL with
          | true => exact .inr ⟨a, c, xs, by rw [hsl, if_neg (by rw [not_or]; exact ⟨h5, h6⟩), h7, e1]; rfl, by omega, e2, rfl⟩
          | false => exact .inl ⟨210, by rw [hsl, if_neg (by rw [not_or]; exact ⟨h5, h6⟩), h7]; rfl, .inl rfl, rfl⟩
    · rw [dec_f (by intro e; exact h4 (UInt8.toNat_inj.mp (by simp; omega))), Bool.not_false]
      exact hbad (.inr (.inr (by rw [hbt]; simpa using h4)))
end Go.Lg.Tryd

namespace Go.Lg.Tryd
set_option linter.unusedVariables false
set_option linter.unusedSimpArgs false
open Go Go.Proofs
theorem joinS_mem : ∀ {l : List (List UInt8)} {s : List UInt8}, s ∈ l → s.length < (joinS l).length
  | x :: l, s, h => by
    rw [joinS_cons]
    simp only [List.length_cons, List.length_append]
    rcases List.mem_cons.mp h with rfl | h
    · omega
    · have := joinS_mem h; omega
theorem segs_mem_len {l s : List UInt8} (h : s ∈ segs l) : s.length ≤ l.length := by
  have := joinS_mem h
  rw [joinS_segs, List.length_cons] at this
  omega
theorem rs_loop {s : ByteArray} {h0 : AH} (hL : (tl s).length ≤ 400) {Q : Value → AH → Prop}
    (hbad : [] ∈ segs ((tl s).drop 1) → ∀ h', Fr [] h0 h' → Q (.tuple #[.slice none 0 0, .int .i64 211]) h')
    (hend : ∀ (out : List ByteArray) a c h', out.map tl = segs ((tl s).drop 1) → [] ∉ out.map tl → Fr [] h0 h' → Ow h' 1 a out.length c (out.flatMap encS) → Ok (ref21_Split_j5 out.length h' a c) Q) :
    ∀ (n i fr : Nat) (out : List ByteArray) (a : Option Addr) (c : Nat) (h : AH), (tl s).length - i = n → 1 ≤ fr → fr ≤ i → i ≤ (tl s).length → (47 : UInt8) ∉ ((tl s).drop fr).take (i - fr) →
      out.map tl ++ segs ((tl s).drop fr) = segs ((tl s).drop 1) → [] ∉ out.map tl → out.length < fr → Fr [] h0 h → Ow h 1 a out.length c (out.flatMap encS) → (∀ b, blk a b → h0.n ≤ b) →
      Ok (ref21_Split_L2 s a out.length c fr i h) Q := by
  have hl2 : s.data.toList.length = (tl s).length := rfl
  intro n
  induction n with
  | zero =>
    intro i fr out a c h hn h1 h2 h3 h47 hseg hne hol hf ho hk
    obtain rfl : i = (tl s).length := by omega
    have hfree : (47 : UInt8) ∉ (tl s).drop fr := by rw [List.take_of_length_le (by rw [List.length_drop]; omega)] at h47; exact h47
    rw [segs_free hfree] at hseg
    refine Ok.le ?_ ref21_Split_L2_le
    rw [dec_t (by omega), cond_t]
    refine Ok.le ?_ ref21_Split_j9_le
    rw [dec_f (by omega), cond_f]
    refine Ok.le ?_ ref21_Split_j8_le
    by_cases he : (tl s).length = fr
    · rw [dec_t (by omega), cond_t]
      exact Ok.some (hbad (by rw [← hseg, ← he, List.drop_length]; simp) h hf)
    · rw [dec_f (by omega), cond_f]
      refine Ok.le ?_ ref21_Split_j7_le
      rw [slcS_both s h2 (Nat.le_refl _) rfl rfl]
      obtain ⟨h', a', c', e2, o2, f2, k2⟩ := push_str ho hf hk (by omega) (BA (((tl s).drop fr).take ((tl s).length - fr)))
      simp only [Option.bind_some, asStr_s, e2, asS_s]
      refine Ok.le ?_ ref21_Split_j6_le
      refine Ok.le ?_ ref21_Split_L2_le
      rw [wrap64 (by omega) (by omega), dec_f (by omega), cond_f]
      have et : ((tl s).drop fr).take ((tl s).length - fr) = (tl s).drop fr := List.take_of_length_le (by rw [List.length_drop]; omega)
      rw [et] at o2
      have := hend (out ++ [BA ((tl s).drop fr)]) a' c' h' (by rw [List.map_append, ← hseg]; rfl) (by
        rw [List.map_append, List.mem_append, not_or]
        refine ⟨hne, ?_⟩
        show [] ∉ [(tl s).drop fr]
        rw [List.mem_singleton]
        intro e
        have := congrArg List.length e
        rw [List.length_drop] at this; simp only [List.length_nil] at this; omega) f2 (by rw [List.length_append]; exact o2)
      rw [List.length_append] at this
      exact this
  | succ n ih =>
    intro i fr out a c h hn h1 h2 h3 h47 hseg hne hol hf ho hk
    have hil : i < (tl s).length := by omega
    refine Ok.le ?_ ref21_Split_L2_le
    rw [dec_t (by omega), cond_t]
    refine Ok.le ?_ ref21_Split_j9_le
    rw [dec_t (by omega), cond_t, dec_t (by omega), cond_t]
    have x1 : (tl s)[i]? = some ((tl s)[i]'hil) := List.getElem?_eq_getElem hil
    generalize (tl s)[i]'hil = y at x1
    have x2 : s.data.toList[((i : Nat) : Int).toNat]? = some y := by rw [Int.toNat_natCast]; exact x1
    rw [x2]
    simp only [Option.bind_some]
    have hx3 : ((tl s).drop fr)[i - fr]? = some y := by rw [List.getElem?_drop, show fr + (i - fr) = i by omega]; exact x1
    by_cases hy : y = 47
    · subst hy
      rw [dec_t (by rfl), Bool.not_true, cond_f]
      have hsp : (tl s).drop fr = ((tl s).drop fr).take (i - fr) ++ 47 :: (tl s).drop (i + 1) := by
        have e0 := (List.take_append_drop (i - fr) ((tl s).drop fr)).symm
        have e1 : ((tl s).drop fr).drop (i - fr) = 47 :: (tl s).drop (i + 1) := by
          rw [List.drop_drop, show fr + (i - fr) = i by omega]
          rw [List.drop_eq_getElem_cons hil]
          congr 1
          rw [List.getElem?_eq_getElem hil] at x1
          exact Option.some.inj x1
        rw [e1] at e0; exact e0
      refine Ok.le ?_ ref21_Split_j8_le
      by_cases he : i = fr
      · rw [dec_t (by omega), cond_t]
        refine Ok.some (hbad ?_ h hf)
        rw [← hseg, hsp, segs_app _ h47]
        subst he; simp
      · rw [dec_f (by omega), cond_f]
        refine Ok.le ?_ ref21_Split_j7_le
        rw [slcS_both s h2 (Nat.le_of_lt hil) rfl rfl]
        obtain ⟨h', a', c', e2, o2, f2, k2⟩ := push_str ho hf hk (by omega) (BA (((tl s).drop fr).take (i - fr)))
        simp only [Option.bind_some, asStr_s, e2, asS_s]
        refine Ok.le ?_ ref21_Split_j6_le
        rw [wrap64 (by omega) (by omega)]
        have := ih (i + 1) (i + 1) (out ++ [BA (((tl s).drop fr).take (i - fr))]) a' c' h' (by omega) (by omega) (Nat.le_refl _) (by omega) (by simp) (by
          rw [hsp, segs_app _ h47] at hseg
          rw [List.map_append, List.append_assoc]; exact hseg) (by
          rw [List.map_append, List.mem_append, not_or]
          refine ⟨hne, ?_⟩
          show [] ∉ [((tl s).drop fr).take (i - fr)]
          rw [List.mem_singleton]
          intro e
          have := congrArg List.length e
          rw [List.length_take, List.length_drop] at this; simp only [List.length_nil] at this; omega) (by rw [List.length_append]; simp only [List.length_cons, List.length_nil]; omega) f2 (by rw [List.length_append]; exact o2) k2
        rw [List.length_append] at this
        exact this
    · rw [dec_f (by intro e; exact hy (UInt8.toNat_inj.mp (by simp; omega))), Bool.not_false, cond_t]
      refine Ok.le ?_ ref21_Split_j6_le
      rw [wrap64 (by omega) (by omega)]
      refine ih (i + 1) fr out a c h (by omega) h1 (by omega) (by omega) ?_ hseg hne hol hf ho hk
      rw [show i + 1 - fr = (i - fr) + 1 by omega, List.take_add_one, hx3, List.mem_append, not_or]
      exact ⟨h47, by simpa using Ne.symm hy⟩
theorem rSplit_loop {h : AH} {a : Option Addr} {xs : List ByteArray} (c : Nat) (hr : Rd h a (xs.flatMap encS)) (hb : xs.length ≤ 1000) (hz : ∀ x ∈ xs, x.size < 9223372036854775808) : ∀ (n i : Nat), xs.length - i = n → i ≤ xs.length → ((xs.map tl).take i).all nameL = true →
    ref21_Split_L1 xs.length a c i h = some (cond ((xs.map tl).all nameL) (.tuple #[.slice a xs.length c, .int .i64 0]) (.tuple #[.slice none 0 0, .int .i64 210]), h) := by
  intro n
  induction n with
  | zero =>
    intro i hn hi ht
    obtain rfl : i = xs.length := by omega
    rw [List.take_of_length_le (by simp)] at ht
    refine ref21_Split_L1_le _ ?_
    rw [dec_f (by omega), cond_f, ht, cond_t]
    exact ref21_Split_j1_le _ rfl
  | succ n ih =>
    intro i hn hi ht
    have hil : i < xs.length := by omega
    have x1 : xs[i]? = some (xs[i]'hil) := List.getElem?_eq_getElem hil
    have hm : xs[i]'hil ∈ xs := List.getElem_mem hil
    generalize xs[i]'hil = x at x1 hm
    have x2 : (xs.map tl)[i]? = some (tl x) := by rw [List.getElem?_map, x1]; rfl
    obtain ⟨ad, rfl, e1⟩ := rd_str hr x1
    refine ref21_Split_L1_le _ ?_
    rw [dec_t (by omega), cond_t]
    refine ref21_Split_j3_le _ ?_
    simp only [Option.bind_some, inB_t (show (0 : Int) ≤ (i : Int) by omega) (show (i : Int) < (xs.length : Nat) by omega), cond_t, Int.toNat_natCast, e1, rname_eq x h (hz x hm), asB_b]
    cases hx : nameL (tl x) with
    | false =>
      have : (xs.map tl).all nameL = false := by rw [List.all_eq_false]; exact ⟨_, List.mem_of_getElem? x2, by rw [hx]; simp⟩
      rw [this]; rfl
    | true =>
      rw [Bool.not_true, cond_f]
      refine ref21_Split_j2_le _ ?_
      rw [wrap64 (by omega) (by omega)]
      exact ih (i + 1) (by omega) (by omega) (by rw [List.take_add_one, x2, List.all_append, ht]; simp [hx])
theorem rSplit_ok (s : ByteArray) (h : AH) : Ok (C k_ref21_Split [.string s] h) fun v h' => Fr [] h h' ∧ SplitR (tl s) v h' := by
  have hl2 : s.data.toList.length = (tl s).length := rfl
  refine Ok.le ?_ ref21_Split_le
  unfold F_ref21_Split
  have hbad : (tl s = [] ∨ 400 < (tl s).length ∨ (tl s).head? ≠ some 47) → Ok (ref21_Split_j12 h s true) fun v h' => Fr [] h h' ∧ SplitR (tl s) v h' := fun hb => by
    refine Ok.le ?_ ref21_Split_j12_le
    rw [cond_t]
    refine Ok.some ⟨.refl _ _, .inl ⟨211, ?_, .inr rfl, rfl⟩⟩
    unfold splitL
    rw [if_neg (by intro e; rw [e] at hb; simp at hb), if_pos hb]
  by_cases h2 : tl s = []
  · rw [dec_t (by rw [hl2, h2]; rfl), cond_t]; exact hbad (.inl h2)
  obtain ⟨b, t, hbt⟩ : ∃ b t, tl s = b :: t := by
    cases hx : tl s with
    | nil => exact absurd hx h2
    | cons b t => exact ⟨b, t, rfl⟩
  have htl : (tl s).length = t.length + 1 := by rw [hbt]; rfl
  rw [dec_f (by omega), cond_f]
  by_cases h3 : 400 < (tl s).length
  · rw [dec_t (by omega), cond_t]; exact hbad (.inr (.inl h3))
  rw [dec_f (by omega), cond_f, dec_t (by omega), cond_t]
  have hy : s.data.toList[0]? = some b := by show (tl s)[0]? = _; rw [hbt]; rfl
  rw [hy]
  simp only [Option.bind_some]
  by_cases h4 : b = 47
  · subst h4
    rw [dec_t (by rfl), Bool.not_true]
    refine Ok.le ?_ ref21_Split_j12_le
    rw [cond_f]
    refine Ok.le ?_ ref21_Split_j11_le
    by_cases h1 : t = []
    · rw [dec_t (by rw [hl2, htl, h1]; rfl), cond_t]
      exact Ok.some ⟨.refl _ _, .inr ⟨none, 0, [], by rw [hbt, h1]; rfl, by simp, .nil, rfl⟩⟩
    · have htp : 0 < t.length := List.length_pos_iff.mpr h1
      rw [dec_f (by omega), cond_f]
      refine Ok.le ?_ ref21_Split_j10_le
      have hd : (tl s).drop 1 = t := by rw [hbt]; rfl
      have hsl : splitL (tl s) = if 16 < (segs t).length ∨ [] ∈ segs t then .error 211 else if (segs t).all nameL then .ok (segs t) else .error 210 := by
        unfold splitL
        rw [if_neg (by rw [hbt]; intro e; exact h1 (List.cons.inj e).2), if_neg (fun h => h.elim h2 fun h => h.elim h3 fun h => h (by rw [hbt]; rfl)), hbt]; rfl
      have := rs_loop (s := s) (h0 := h) (Q := fun v h' => Fr [] h h' ∧ SplitR (tl s) v h') (by omega)
        (fun hb h' hf => ⟨hf, .inl ⟨211, by rw [hd] at hb; rw [hsl, if_pos (.inr hb)], .inr rfl, rfl⟩⟩)
        (fun out a c h' e1 e2 hf ho => by
          rw [hd] at e1
          have el : out.length = (segs t).length := by rw [← e1, List.length_map]
          refine Ok.le ?_ ref21_Split_j5_le
          by_cases h5 : 16 < (segs t).length
          · rw [dec_t (by omega), cond_t]
            exact Ok.some ⟨hf, .inl ⟨211, by rw [hsl, if_pos (.inl h5)], .inr rfl, rfl⟩⟩
          · rw [dec_f (by omega), cond_f]
            refine Ok.le ?_ ref21_Split_j4_le
            have hz : ∀ x ∈ out, x.size < 9223372036854775808 := fun x hx => by
              have hm : tl x ∈ segs t := by rw [← e1]; exact List.mem_map_of_mem hx
              have := segs_mem_len hm
              have : (tl x).length = x.size := rfl
              omega
            refine Ok.eq (rSplit_loop c ho.rd (by omega) hz _ 0 rfl (Nat.zero_le _) rfl) ⟨hf, ?_⟩
            rw [e1] at e2 ⊢
            cases h7 : (segs t).all nameL with
            | true => exact .inr ⟨a, c, out, by rw [hsl, if_neg (by rw [not_or]; exact ⟨h5, e2⟩), h7, e1]; rfl, by omega, ow_sl ho (by omega), rfl⟩
            | false => exact .inl ⟨210, by rw [hsl, if_neg (by rw [not_or]; exact ⟨h5, e2⟩), h7]; rfl, .inl rfl, rfl⟩)
        _ 1 1 [] none 0 h rfl (Nat.le_refl _) (Nat.le_refl _) (by omega) (by simp) (by simp) (by simp) (by simp) (.refl _ _) .nil (fun b hb => by cases hb)
      exact this
  · rw [dec_f (by intro e; exact h4 (UInt8.toNat_inj.mp (by simp; omega))), Bool.not_false]
    exact hbad (.inr (.inr (by rw [hbt]; simpa using h4)))

def joinV : Except Int (List UInt8) → Value
  | .error e => .tuple #[.string (ByteArray.mk #[]), .int .i64 e]
  | .ok p => .tuple #[.string (BA p), .int .i64 0]
theorem names_small {xs : List ByteArray} (ha : (xs.map tl).all nameL = true) : ∀ x ∈ xs.map tl, x.length ≤ 60 := fun x hx => (nameL_pos (List.all_eq_true.mp ha x hx)).2
theorem sJoin_eq {h : AH} {a : Option Addr} {n c : Nat} {xs : List ByteArray} (hr : Rd h a (xs.flatMap encS)) (hnn : Nn a) (hn : n = xs.length) (hc : n ≤ c) (hb : xs.length ≤ 1000) (ha : (xs.map tl).all nameL = true) :
    C k_strings_Join [.slice a n c, .string ⟨#[47]⟩] h = some (.string (BA (Lib.join (xs.map tl) [47])), h) := by
  subst hn
  have hj : joinF [.slice a xs.length c, .string ⟨#[47]⟩] h = some (.string (BA (Lib.join (xs.map tl) [47])), h) := by
    unfold joinF
    cases xs with
    | nil => rfl
    | cons x r =>
      obtain ⟨ad, rfl, hrow⟩ := hr.row (by rw [flatS]; simp)
      rcases hnn with hnn | ⟨b, o, hnn⟩
      · cases hnn
      · obtain rfl := Option.some.inj hnn
        rw [flatS_len, flatS] at hrow
        have h0 : Nat.beq (x :: r).length 0 = false := rfl
        have hl : (joinL (x :: r) ⟨#[47]⟩).length ≤ 61 * (x :: r).length := by
          have h1 : 47 :: joinL (x :: r) ⟨#[47]⟩ = joinS ((x :: r).map tl) := by
            show 47 :: Lib.join (tl x :: r.map tl) [47] = _
            rw [joinS_join]; rfl
          have h2 := joinS_len _ (names_small ha)
          rw [← h1, List.length_cons, List.length_map] at h2
          omega
        simp only [h0, cond_f, hrow, Option.bind_some, rowStr_of]
        rw [Nat.ble_eq_true_of_le hc, Nat.ble_eq_true_of_le (show (x :: r).length ≤ 140737488355328 by omega), Nat.ble_eq_true_of_le (show (joinL (x :: r) ⟨#[47]⟩).length ≤ 140737488355328 by omega)]
        rfl
  refine C_lib rfl ?_
  have e : ∀ args h, strO k_strings_Join args h = orR (joinF args h) none := fun _ _ => rfl
  rw [e, hj]; rfl
theorem nJoin_loop {h : AH} {a : Option Addr} {c : Nat} {xs : List ByteArray} (hr : Rd h a (xs.flatMap encS)) (hnn : Nn a) (hc : xs.length ≤ c) (hb : xs.length ≤ 1000) : ∀ (n i : Nat), xs.length - i = n → i ≤ xs.length → ((xs.map tl).take i).all nameL = true →
    names_Join_L1 a xs.length c xs.length i h = some (joinV (joinP (xs.map tl)), h) := by
  intro n
  induction n with
  | zero =>
    intro i hn hi ht
    obtain rfl : i = xs.length := by omega
    rw [List.take_of_length_le (by simp)] at ht
    refine names_Join_L1_le _ ?_
    refine names_Join_j5_le _ ?_
    rw [dec_f (by omega), cond_f]
    refine names_Join_j2_le _ ?_
    rw [sJoin_eq hr hnn rfl hc hb ht]
    simp only [Option.bind_some, asStr_s]
    have e47 : tl (ByteArray.mk #[47]) = [47] := rfl
    have hlen : (tl (ByteArray.mk #[47] ++ BA (Lib.join (xs.map tl) [47]))) = if xs = [] then [47] else joinS (xs.map tl) := by
      rw [tl_app, e47, tl_BA]
      cases xs with
      | nil => rfl
      | cons x r => rw [if_neg (by simp), List.map_cons, ← joinS_join]; rfl
    have hjl := joinS_len _ (names_small ht)
    rw [List.length_map] at hjl
    have hsz : (ByteArray.mk #[47]).size + (BA (Lib.join (xs.map tl) [47])).size = (tl (ByteArray.mk #[47] ++ BA (Lib.join (xs.map tl) [47]))).length := by rw [tl_app, List.length_append]; rfl
    have hjl2 : (tl (ByteArray.mk #[47] ++ BA (Lib.join (xs.map tl) [47]))).length ≤ 61000 := by
      rw [hlen]; split
      · decide
      · omega
    rw [hsz, Nat.ble_eq_true_of_le (by omega), cond_t]
    have hl3 : (ByteArray.mk #[47] ++ BA (Lib.join (xs.map tl) [47])).data.toList.length = (tl (ByteArray.mk #[47] ++ BA (Lib.join (xs.map tl) [47]))).length := rfl
    unfold joinP
    rw [if_neg (by rw [ht]; simp), List.length_map]
    by_cases h16 : 16 < xs.length
    · rw [dec_t (by omega), cond_t, if_pos h16]; rfl
    · rw [dec_f (by omega), cond_f, if_neg h16]
      by_cases h400 : 400 < (joinS (xs.map tl)).length
      · have hne : xs ≠ [] := fun e => by subst e; simp [joinS] at h400
        rw [if_neg hne] at hlen
        rw [dec_t (by rw [hl3, hlen]; omega), cond_t, if_pos h400]; rfl
      · rw [dec_f (by rw [hl3, hlen]; split <;> simp <;> omega), cond_f, if_neg h400]
        refine names_Join_j1_le _ ?_
        have : ByteArray.mk #[47] ++ BA (Lib.join (xs.map tl) [47]) = BA (if xs.map tl = [] then [47] else joinS (xs.map tl)) := tl_inj (by
          rw [hlen, tl_BA]
          simp only [List.map_eq_nil_iff])
        rw [this]; rfl
  | succ n ih =>
    intro i hn hi ht
    have hil : i < xs.length := by omega
    have x1 : xs[i]? = some (xs[i]'hil) := List.getElem?_eq_getElem hil
    generalize xs[i]'hil = x at x1
    have x2 : (xs.map tl)[i]? = some (tl x) := by rw [List.getElem?_map, x1]; rfl
    obtain ⟨ad, rfl, e1⟩ := rd_str hr x1
    refine names_Join_L1_le _ ?_
    refine names_Join_j5_le _ ?_
    rw [dec_t (by omega), cond_t]
    refine names_Join_j4_le _ ?_
    simp only [Option.bind_some, inB_t (show (0 : Int) ≤ (i : Int) by omega) (show (i : Int) < (xs.length : Nat) by omega), cond_t, Int.toNat_natCast, e1, name_eq, asB_b]
    cases hx : nameL (tl x) with
    | false =>
      have : (xs.map tl).all nameL = false := by rw [List.all_eq_false]; exact ⟨_, List.mem_of_getElem? x2, by rw [hx]; simp⟩
      unfold joinP
      rw [if_pos this]; rfl
    | true =>
      rw [Bool.not_true, cond_f]
      refine names_Join_j3_le _ ?_
      rw [wrap64 (by omega) (by omega)]
      exact ih (i + 1) (by omega) (by omega) (by rw [List.take_add_one, x2, List.all_append, ht]; simp [hx])
theorem nJoin_eq {h : AH} {a : Option Addr} {n c : Nat} {xs : List ByteArray} (hr : Rd h a (xs.flatMap encS)) (hnn : Nn a) (hn : n = xs.length) (hc : n ≤ c) (hb : xs.length ≤ 1000) :
    C k_names_Join [.slice a n c] h = some (joinV (joinP (xs.map tl)), h) := by
  subst hn
  exact names_Join_le _ (nJoin_loop hr hnn hc hb _ 0 rfl (Nat.zero_le _) rfl)
theorem rJoin_loop1 {h : AH} {a : Option Addr} {c : Nat} {xs : List ByteArray} (hr : Rd h a (xs.flatMap encS)) (hb : xs.length ≤ 16) (ha : (xs.map tl).all nameL = true) : ∀ (n i : Nat), xs.length - i = n → i ≤ xs.length →
    ref21_Join_L1 xs.length a c (BA (joinS ((xs.map tl).take i))) i h = some (joinV (joinP (xs.map tl)), h) := by
  intro n
  induction n with
  | zero =>
    intro i hn hi
    obtain rfl : i = xs.length := by omega
    rw [List.take_of_length_le (by simp)]
    refine ref21_Join_L1_le _ ?_
    rw [dec_f (by omega), cond_f]
    refine ref21_Join_j3_le _ ?_
    have hl3 : (BA (joinS (xs.map tl))).data.toList.length = (joinS (xs.map tl)).length := rfl
    unfold joinP
    rw [if_neg (by rw [ha]; simp), List.length_map, if_neg (by omega)]
    by_cases h400 : 400 < (joinS (xs.map tl)).length
    · rw [dec_t (by omega), cond_t, if_pos h400]; rfl
    · rw [dec_f (by omega), cond_f, if_neg h400]
      refine ref21_Join_j2_le _ ?_
      by_cases h0 : xs = []
      · subst h0; rw [dec_t (show (([] : List ByteArray).length : Int) = 0 from rfl), cond_t]; rfl
      · have := List.length_pos_iff.mpr h0
        rw [dec_f (by omega), cond_f]
        refine ref21_Join_j1_le _ ?_
        rw [if_neg (by simpa using h0)]; rfl
  | succ n ih =>
    intro i hn hi
    have hil : i < xs.length := by omega
    have x1 : xs[i]? = some (xs[i]'hil) := List.getElem?_eq_getElem hil
    have hm : xs[i]'hil ∈ xs := List.getElem_mem hil
    generalize xs[i]'hil = x at x1 hm
    have x2 : (xs.map tl)[i]? = some (tl x) := by rw [List.getElem?_map, x1]; rfl
    obtain ⟨ad, rfl, e1⟩ := rd_str hr x1
    refine ref21_Join_L1_le _ ?_
    rw [dec_t (by omega), cond_t]
    refine ref21_Join_j5_le _ ?_
    have hsm := names_small ha
    have hx60 := hsm (tl x) (List.mem_map_of_mem hm)
    have hjl := joinS_len ((xs.map tl).take i) (fun y hy => hsm y (List.mem_of_mem_take hy))
    rw [List.length_take, List.length_map] at hjl
    have z1 : (BA (joinS ((xs.map tl).take i))).size = (joinS ((xs.map tl).take i)).length := rfl
    have z2 : (ByteArray.mk #[47]).size = 1 := rfl
    have z3 : (BA (joinS ((xs.map tl).take i)) ++ ByteArray.mk #[47]).size = (joinS ((xs.map tl).take i)).length + 1 := by
      rw [← tl_len, tl_app, List.length_append]; rfl
    have z4 : x.size = (tl x).length := rfl
    rw [z1, z2, Nat.ble_eq_true_of_le (by omega), cond_t]
    simp only [Option.bind_some, inB_t (show (0 : Int) ≤ (i : Int) by omega) (show (i : Int) < (xs.length : Nat) by omega), cond_t, Int.toNat_natCast, e1]
    rw [z3, z4, Nat.ble_eq_true_of_le (by omega), cond_t]
    refine ref21_Join_j4_le _ ?_
    rw [wrap64 (by omega) (by omega)]
    have : BA (joinS ((xs.map tl).take i)) ++ ByteArray.mk #[47] ++ x = BA (joinS ((xs.map tl).take (i + 1))) := tl_inj (by
      rw [tl_app, tl_app, tl_BA, tl_BA, List.take_add_one, x2]
      unfold joinS
      rw [List.flatMap_append, List.append_assoc]
      simp
      rfl)
    rw [this]
    exact ih (i + 1) (by omega) (by omega)
theorem rJoin_loop2 {h : AH} {a : Option Addr} {c : Nat} {xs : List ByteArray} (hr : Rd h a (xs.flatMap encS)) (hb : xs.length ≤ 1000) (hz : ∀ x ∈ xs, x.size < 9223372036854775808) : ∀ (n i : Nat), xs.length - i = n → i ≤ xs.length → ((xs.map tl).take i).all nameL = true →
    ref21_Join_L2 xs.length a c (ByteArray.mk #[]) i h = some (joinV (joinP (xs.map tl)), h) := by
  intro n
  induction n with
  | zero =>
    intro i hn hi ht
    obtain rfl : i = xs.length := by omega
    rw [List.take_of_length_le (by simp)] at ht
    refine ref21_Join_L2_le _ ?_
    rw [dec_f (by omega), cond_f]
    refine ref21_Join_j7_le _ ?_
    by_cases h16 : 16 < xs.length
    · rw [dec_t (by omega), cond_t]
      unfold joinP
      rw [if_neg (by rw [ht]; simp), List.length_map, if_pos h16]; rfl
    · rw [dec_f (by omega), cond_f]
      refine ref21_Join_j6_le _ ?_
      exact rJoin_loop1 hr (by omega) ht _ 0 rfl (Nat.zero_le _)
  | succ n ih =>
    intro i hn hi ht
    have hil : i < xs.length := by omega
    have x1 : xs[i]? = some (xs[i]'hil) := List.getElem?_eq_getElem hil
    have hm : xs[i]'hil ∈ xs := List.getElem_mem hil
    generalize xs[i]'hil = x at x1 hm
    have x2 : (xs.map tl)[i]? = some (tl x) := by rw [List.getElem?_map, x1]; rfl
    obtain ⟨ad, rfl, e1⟩ := rd_str hr x1
    refine ref21_Join_L2_le _ ?_
    rw [dec_t (by omega), cond_t]
    refine ref21_Join_j9_le _ ?_
    simp only [Option.bind_some, inB_t (show (0 : Int) ≤ (i : Int) by omega) (show (i : Int) < (xs.length : Nat) by omega), cond_t, Int.toNat_natCast, e1, rname_eq x h (hz x hm), asB_b]
    cases hx : nameL (tl x) with
    | false =>
      have : (xs.map tl).all nameL = false := by rw [List.all_eq_false]; exact ⟨_, List.mem_of_getElem? x2, by rw [hx]; simp⟩
      unfold joinP
      rw [if_pos this]; rfl
    | true =>
      rw [Bool.not_true, cond_f]
      refine ref21_Join_j8_le _ ?_
      rw [wrap64 (by omega) (by omega)]
      exact ih (i + 1) (by omega) (by omega) (by rw [List.take_add_one, x2, List.all_append, ht]; simp [hx])
theorem rJoin_eq {h : AH} {a : Option Addr} {n c : Nat} {xs : List ByteArray} (hr : Rd h a (xs.flatMap encS)) (hn : n = xs.length) (hb : xs.length ≤ 1000) (hz : ∀ x ∈ xs, x.size < 9223372036854775808) :
    C k_ref21_Join [.slice a n c] h = some (joinV (joinP (xs.map tl)), h) := by
  subst hn
  exact ref21_Join_le _ (rJoin_loop2 hr hb hz _ 0 rfl (Nat.zero_le _) rfl)
end Go.Lg.Tryd

namespace Go.Lg.Tryd
set_option linter.unusedVariables false
set_option linter.unusedSimpArgs false
open Go Go.Proofs
theorem dec_T [inst : Decidable True] : decide True = true := decide_eq_true trivial
def splitRes (p : List UInt8) : List (List UInt8) × Int := match splitL p with
  | .error e => ([], e)
  | .ok l => (l, 0)
theorem SplitR.uni {p : List UInt8} {v : Value} {h : AH} (hs : SplitR p v h) : ∃ a c xs e, v = .tuple #[.slice a xs.length c, .int .i64 e] ∧ SL h a xs.length c xs ∧ splitRes p = (xs.map tl, e) ∧ xs.length ≤ 16 := by
  rcases hs with ⟨e, h1, h2, rfl⟩ | ⟨a, c, xs, h1, h2, h3, rfl⟩
  · exact ⟨none, 0, [], e, rfl, .nil, by unfold splitRes; rw [h1]; rfl, by simp⟩
  · exact ⟨a, c, xs, 0, rfl, h3, by unfold splitRes; rw [h1], h2⟩
def joinRes (l : List (List UInt8)) : List UInt8 × Int := match joinP l with
  | .error e => ([], e)
  | .ok p => (p, 0)
theorem joinV_eq (l : List (List UInt8)) : joinV (joinP l) = .tuple #[.string (BA (joinRes l).1), .int .i64 (joinRes l).2] := by
  unfold joinRes
  cases joinP l <;> rfl
def upRes (p : List UInt8) : List UInt8 × List UInt8 × Int := match splitL p with
  | .error e => ([], [], e)
  | .ok l => match l.getLast? with
    | none => ([], [], 211)
    | some x => ((joinRes l.dropLast).1, x, 0)
theorem upRes_ok {p : List UInt8} {l : List (List UInt8)} {x : List UInt8} (h : splitL p = .ok l) (hx : l.getLast? = some x) : upRes p = ((joinRes l.dropLast).1, x, 0) := by
  unfold upRes; rw [h]; simp only [hx]
theorem take_last (xs : List ByteArray) {n : Nat} (hn : xs.length = n + 1) : (xs.take n).map tl = (xs.map tl).dropLast := by
  rw [List.map_take, List.dropLast_eq_take, List.length_map, hn]; rfl
theorem last_at {xs : List ByteArray} {n : Nat} {x : ByteArray} (hn : xs.length = n + 1) (hx : xs[n]? = some x) : (xs.map tl).getLast? = some (tl x) := by
  rw [List.getLast?_eq_getElem?, List.length_map, hn, Nat.add_sub_cancel, List.getElem?_map, hx]; rfl
theorem nUp_ok (s : ByteArray) (h : AH) : Ok (C k_names_Up [.string s] h) fun v h' => Fr [] h h' ∧ v = .tuple #[.string (BA (upRes (tl s)).1), .string (BA (upRes (tl s)).2.1), .int .i64 (upRes (tl s)).2.2] := by
  refine Ok.le ?_ names_Up_le
  unfold F_names_Up
  refine Ok.bind (nSplit_ok s h) ?_
  rintro v h' ⟨f, ⟨e, h1, h2, rfl⟩ | ⟨a, c, xs, h1, h2, h3, rfl⟩⟩
  · simp only [asTu_t, hdO_c, asS_s, asI_i64, Option.bind_some, List.isEmpty_nil, cond_t]
    rw [dec_f (by omega), cond_f]
    refine Ok.le ?_ names_Up_j2_le
    rw [dec_f (by omega), Bool.not_false, cond_t]
    refine Ok.some ⟨f, ?_⟩
    unfold upRes; rw [h1]; rfl
  · simp only [asTu_t, hdO_c, asS_s, asI_i64, Option.bind_some, List.isEmpty_nil, cond_t]
    rw [dec_t (p := True) trivial, cond_t]
    cases hl : xs.length with
    | zero =>
      obtain rfl : xs = [] := List.eq_nil_of_length_eq_zero hl
      rw [dec_t (by rfl), cond_t]
      refine Ok.le ?_ names_Up_j2_le
      rw [dec_f (by omega), Bool.not_false, cond_t]
      refine Ok.some ⟨f, ?_⟩
      unfold upRes; rw [h1]; rfl
    | succ n =>
      rw [dec_f (by omega), cond_f]
      refine Ok.le ?_ names_Up_j2_le
      rw [dec_t rfl, Bool.not_true, cond_f]
      refine Ok.le ?_ names_Up_j1_le
      rw [hl] at h3
      have hw : IntKind.wrap .i64 (((n + 1 : Nat) : Int) - 1) = (n : Nat) := by rw [wrap64 (by omega) (by omega)]; omega
      obtain ⟨c1, c2⟩ := h3.cut (k := n) (by omega) (i := IntKind.wrap .i64 (((n + 1 : Nat) : Int) - 1)) hw
      simp only [c1, Option.bind_some, asS_s]
      have x1 : xs[n]? = some (xs[n]'(by omega)) := List.getElem?_eq_getElem (by omega)
      generalize xs[n]'(by omega) = x at x1
      obtain ⟨ad, rfl, e1⟩ := rd_str h3.rd x1
      rw [nJoin_eq c2.rd c2.nn c2.len c2.le (by rw [List.length_take]; omega), joinV_eq]
      simp only [asTu_t, hdO_c, asStr_s, asI_i64, Option.bind_some, List.isEmpty_nil, cond_t, hw, inB_t (show (0 : Int) ≤ (n : Int) by omega) (show (n : Int) < ((n + 1 : Nat) : Int) by omega), Int.toNat_natCast, e1]
      refine Ok.some ⟨f, ?_⟩
      rw [upRes_ok h1 (last_at hl x1), take_last xs hl]
      rfl
theorem rUp_ok (s : ByteArray) (h : AH) : Ok (C k_ref21_Up [.string s] h) fun v h' => Fr [] h h' ∧ v = .tuple #[.string (BA (upRes (tl s)).1), .string (BA (upRes (tl s)).2.1), .int .i64 (upRes (tl s)).2.2] := by
  refine Ok.le ?_ ref21_Up_le
  unfold F_ref21_Up
  refine Ok.bind (rSplit_ok s h) ?_
  rintro v h' ⟨f, ⟨e, h1, h2, rfl⟩ | ⟨a, c, xs, h1, h2, h3, rfl⟩⟩
  · simp only [asTu_t, hdO_c, asS_s, asI_i64, Option.bind_some, List.isEmpty_nil, cond_t]
    rw [dec_f (by omega), Bool.not_false, cond_t]
    refine Ok.some ⟨f, ?_⟩
    unfold upRes; rw [h1]; rfl
  · simp only [asTu_t, hdO_c, asS_s, asI_i64, Option.bind_some, List.isEmpty_nil, cond_t]
    rw [dec_t (p := True) trivial, Bool.not_true, cond_f]
    refine Ok.le ?_ ref21_Up_j2_le
    cases hl : xs.length with
    | zero =>
      obtain rfl : xs = [] := List.eq_nil_of_length_eq_zero hl
      rw [dec_t (by rfl), cond_t]
      refine Ok.some ⟨f, ?_⟩
      unfold upRes; rw [h1]; rfl
    | succ n =>
      rw [dec_f (by omega), cond_f]
      refine Ok.le ?_ ref21_Up_j1_le
      rw [hl] at h3
      have hw : IntKind.wrap .i64 (((n + 1 : Nat) : Int) - 1) = (n : Nat) := by rw [wrap64 (by omega) (by omega)]; omega
      obtain ⟨c1, c2⟩ := h3.cut (k := n) (by omega) (i := IntKind.wrap .i64 (((n + 1 : Nat) : Int) - 1)) hw
      simp only [c1, Option.bind_some, asS_s]
      have x1 : xs[n]? = some (xs[n]'(by omega)) := List.getElem?_eq_getElem (by omega)
      generalize xs[n]'(by omega) = x at x1
      obtain ⟨ad, rfl, e1⟩ := rd_str h3.rd x1
      have hz : ∀ y ∈ xs.take n, y.size < 9223372036854775808 := fun y hy => by
        have hm := List.mem_of_mem_take hy
        have h4 := split_join h1
        have := nameL_pos (List.all_eq_true.mp h4.2.1 _ (List.mem_map_of_mem (f := tl) hm))
        have : (tl y).length = y.size := rfl
        omega
      rw [rJoin_eq c2.rd c2.len (by rw [List.length_take]; omega) hz, joinV_eq]
      simp only [asTu_t, hdO_c, asStr_s, asI_i64, Option.bind_some, List.isEmpty_nil, cond_t, hw, inB_t (show (0 : Int) ≤ (n : Int) by omega) (show (n : Int) < ((n + 1 : Nat) : Int) by omega), Int.toNat_natCast, e1]
      refine Ok.some ⟨f, ?_⟩
      rw [upRes_ok h1 (last_at hl x1), take_last xs hl]
      rfl

def withinB (p d : List UInt8) : Bool := match splitL p, splitL d with
  | .ok a, .ok b => decide (b.length ≤ a.length) && decide (a.take b.length = b)
  | _, _ => false
theorem take_dec (xs ys : List ByteArray) : decide (xs.take ys.length = ys) = decide ((xs.map tl).take (ys.map tl).length = ys.map tl) := by
  rw [List.length_map, ← List.map_take]
  exact decide_eq_decide.mpr map_inj.symm
theorem nWithin_ok (s t : ByteArray) (h : AH) : Ok (C k_names_Within [.string s, .string t] h) fun v h' => Fr [] h h' ∧ v = .bool (withinB (tl s) (tl t)) := by
  refine Ok.le ?_ names_Within_le
  unfold F_names_Within
  refine Ok.bind (nSplit_ok s h) ?_
  rintro v h1 ⟨f1, q1⟩
  have key : ∀ a n c e, v = .tuple #[.slice a n c, .int .i64 e] → ∀ f : Value × AH → Res, True := fun _ _ _ _ _ _ => trivial
  rcases q1 with ⟨e, g1, g2, rfl⟩ | ⟨a, c, xs, g1, g2, g3, rfl⟩
  all_goals
    simp only [asTu_t, hdO_c, asS_s, asI_i64, Option.bind_some, List.isEmpty_nil, cond_t]
    refine Ok.bind (nSplit_ok t h1) ?_
    rintro v2 h2 ⟨f2, ⟨e2, k1, k2, rfl⟩ | ⟨a2, c2, ys, k1, k2, k3, rfl⟩⟩
    all_goals simp only [asTu_t, hdO_c, asS_s, asI_i64, Option.bind_some, List.isEmpty_nil, cond_t]
  · rw [dec_f (by omega), cond_f]
    exact Ok.some ⟨f1.trans f2, by unfold withinB; rw [g1]⟩
  · rw [dec_f (by omega), cond_f]
    exact Ok.some ⟨f1.trans f2, by unfold withinB; rw [g1]⟩
  · rw [dec_t (p := True) trivial, cond_t, dec_f (by omega), cond_f]
    exact Ok.some ⟨f1.trans f2, by unfold withinB; rw [g1, k1]⟩
  · rw [dec_t (p := True) trivial, cond_t, cond_t]
    by_cases hl : ys.length ≤ xs.length
    · rw [dec_t (by omega), cond_t]
      obtain ⟨c1, c2⟩ := (g3.fr f2).cut hl (i := ((ys.length : Nat) : Int)) rfl
      rw [c1]
      simp only [Option.bind_some, asS_s]
      rw [equal_eq _ _ c2.rd k3.rd c2.len rfl (by rw [List.length_take]; omega)]
      simp only [Option.bind_some, asB_b]
      refine Ok.some ⟨f1.trans f2, ?_⟩
      unfold withinB; rw [g1, k1, take_dec]
      simp only [List.length_map, decide_eq_true hl, Bool.true_and]
    · rw [dec_f (by omega), cond_f]
      refine Ok.some ⟨f1.trans f2, ?_⟩
      unfold withinB; rw [g1, k1]
      simp only [List.length_map, decide_eq_false hl, Bool.false_and]
theorem rWithin_loop {h : AH} {a1 a4 : Option Addr} {l1 l2 : List ByteArray} (c3 c6 : Nat) (h1 : Rd h a1 (l1.flatMap encS)) (h2 : Rd h a4 (l2.flatMap encS)) (he : l2.length ≤ l1.length) (hb : l1.length < 4611686018427387904) :
    ∀ (n i : Nat), l2.length - i = n → i ≤ l2.length → l1.take i = l2.take i → ref21_Within_L1 l2.length a1 l1.length a4 c6 c3 i h = some (.bool (decide (l1.take l2.length = l2)), h) := by
  intro n
  induction n with
  | zero =>
    intro i hn hi ht
    obtain rfl : i = l2.length := by omega
    refine ref21_Within_L1_le _ ?_
    rw [dec_f (by omega), cond_f]
    refine ref21_Within_j1_le _ ?_
    rw [List.take_of_length_le (l := l2) (Nat.le_refl _)] at ht
    rw [dec_t ht]
  | succ n ih =>
    intro i hn hi ht
    have hil : i < l2.length := by omega
    refine ref21_Within_L1_le _ ?_
    rw [dec_t (by omega), cond_t]
    refine ref21_Within_j3_le _ ?_
    have x1 : l1[i]? = some (l1[i]'(by omega)) := List.getElem?_eq_getElem (by omega)
    have x2 : l2[i]? = some (l2[i]'hil) := List.getElem?_eq_getElem hil
    generalize l1[i]'(by omega) = x at x1
    generalize l2[i]'hil = y at x2
    obtain ⟨ad1, rfl, e1⟩ := rd_str h1 x1
    obtain ⟨ad2, rfl, e2⟩ := rd_str h2 x2
    simp only [Option.bind_some, inB_t (show (0 : Int) ≤ (i : Int) by omega) (show (i : Int) < (l1.length : Nat) by omega), inB_t (show (0 : Int) ≤ (i : Int) by omega) (show (i : Int) < (l2.length : Nat) by omega), cond_t, Int.toNat_natCast, e1, e2, seqB_dec]
    by_cases hxy : x = y
    · rw [dec_t (by rw [hxy]), Bool.not_true, cond_f]
      refine ref21_Within_j2_le _ ?_
      rw [wrap64 (by omega) (by omega)]
      exact ih (i + 1) (by omega) (by omega) (by rw [List.take_add_one, List.take_add_one, ht, x1, x2, hxy])
    · rw [dec_f (fun e => hxy (tl_inj e)), Bool.not_false, cond_t]
      have : l1.take l2.length ≠ l2 := fun e => by
        have h3 : (l1.take l2.length)[i]? = some x := by rw [List.getElem?_take_of_lt hil]; exact x1
        rw [e, x2] at h3; exact hxy (Option.some.inj h3).symm
      rw [dec_f this]
theorem rWithin_ok (s t : ByteArray) (h : AH) : Ok (C k_ref21_Within [.string s, .string t] h) fun v h' => Fr [] h h' ∧ v = .bool (withinB (tl s) (tl t)) := by
  refine Ok.le ?_ ref21_Within_le
  unfold F_ref21_Within
  refine Ok.bind (rSplit_ok s h) ?_
  rintro v h1 ⟨f1, q1⟩
  rcases q1 with ⟨e, g1, g2, rfl⟩ | ⟨a, c, xs, g1, g2, g3, rfl⟩
  all_goals
    simp only [asTu_t, hdO_c, asS_s, asI_i64, Option.bind_some, List.isEmpty_nil, cond_t]
    refine Ok.bind (rSplit_ok t h1) ?_
    rintro v2 h2 ⟨f2, ⟨e2, k1, k2, rfl⟩ | ⟨a2, c2, ys, k1, k2, k3, rfl⟩⟩
    all_goals simp only [asTu_t, hdO_c, asS_s, asI_i64, Option.bind_some, List.isEmpty_nil, cond_t]
  · rw [dec_f (by omega), Bool.not_false, cond_t]
    exact Ok.some ⟨f1.trans f2, by unfold withinB; rw [g1]⟩
  · rw [dec_f (by omega), Bool.not_false, cond_t]
    exact Ok.some ⟨f1.trans f2, by unfold withinB; rw [g1]⟩
  · rw [dec_t (p := True) trivial, Bool.not_true, cond_f, dec_f (by omega), Bool.not_false, cond_t]
    exact Ok.some ⟨f1.trans f2, by unfold withinB; rw [g1, k1]⟩
  · rw [dec_t (p := True) trivial, Bool.not_true, cond_f, cond_f]
    by_cases hl : ys.length ≤ xs.length
    · rw [dec_f (by omega), cond_f]
      refine Ok.le ?_ ref21_Within_j4_le
      refine Ok.eq (rWithin_loop _ _ (g3.fr f2).rd k3.rd hl (by omega) _ 0 rfl (Nat.zero_le _) rfl) ⟨f1.trans f2, ?_⟩
      unfold withinB; rw [g1, k1, take_dec]
      simp only [List.length_map, decide_eq_true hl, Bool.true_and]
    · rw [dec_t (by omega), cond_t]
      refine Ok.some ⟨f1.trans f2, ?_⟩
      unfold withinB; rw [g1, k1]
      simp only [List.length_map, decide_eq_false hl, Bool.false_and]
end Go.Lg.Tryd
