/- Words and lemmas for proofs over the abstract memory. -/
import Derived.Test.YtciiigaagggefaaEv27
import Derived.IntWalk
namespace Go.Lg
set_option linter.unusedVariables false
open Go

namespace AH
theorem n_set (h : AH) (b : Nat) (x : Option Blk) : (h.set b x).n = h.n := rfl
theorem n_push (h : AH) (x : Blk) : (h.push x).n = h.n + 1 := rfl
theorem get_set_eq (h : AH) (b : Nat) (x : Option Blk) : (h.set b x).get b = x := by rw [get_set, if_pos rfl]
theorem get_push_eq (h : AH) (x : Blk) : (h.push x).get h.n = some x := by rw [get_push, if_pos rfl]
theorem get_set_ne {h : AH} {b b' : Nat} (x : Option Blk) (hn : b' ≠ b) : (h.set b x).get b' = h.get b' := by rw [get_set, if_neg hn]
theorem get_push_ne {h : AH} {b' : Nat} (x : Blk) (hn : b' ≠ h.n) : (h.push x).get b' = h.get b' := by rw [get_push, if_neg hn]
variable {h : AH} {b o : Nat} {c : List Value} {op ro : Bool} {e : Nat}
theorem ld_of (hg : h.get b = some (.cells c op ro e)) (o : Nat) : h.ld b o = c[o]? := by simp only [ld, hg]
theorem ldI_of {k : IntKind} {x : Int} (hg : h.get b = some (.cells c op ro e)) (hc : c[o]? = some (.int k x)) : h.ldI k b o = some x := by
  simp only [ldI, ld_of hg, hc, Option.bind_some]
  have : (k == k) = true := by cases k <;> rfl
  rw [this]; rfl
theorem ldB_of {x : Bool} (hg : h.get b = some (.cells c op ro e)) (hc : c[o]? = some (.bool x)) : h.ldB b o = some x := by
  simp only [ldB, ld_of hg, hc, Option.bind_some]
theorem ldStr_of {x : ByteArray} (hg : h.get b = some (.cells c op ro e)) (hc : c[o]? = some (.string x)) : h.ldStr b o = some x := by
  simp only [ldStr, ld_of hg, hc, Option.bind_some]
theorem ldP_of {x : Option Addr} (hg : h.get b = some (.cells c op ro e)) (hc : c[o]? = some (.pointer x)) : h.ldP b o = some x := by
  simp only [ldP, ld_of hg, hc, Option.bind_some]
theorem ldS_of {a : Option Addr} {n m : Nat} (hg : h.get b = some (.cells c op ro e)) (hc : c[o]? = some (.slice a n m)) : h.ldS b o = some (a, n, m) := by
  simp only [ldS, ld_of hg, hc, Option.bind_some]
theorem ldM_of {x : Option Nat} (hg : h.get b = some (.cells c op ro e)) (hc : c[o]? = some (.map x)) : h.ldM b o = some x := by
  simp only [ldM, ld_of hg, hc, Option.bind_some]
theorem st_of {vs : List Value} (hg : h.get b = some (.cells c op false e)) (hl : o + vs.length ≤ c.length) : h.st b o vs = some (h.set b (some (.cells (setL c o vs) op false e))) := by
  simp only [st, hg, cond_false]
  rw [Nat.ble_eq_true_of_le hl]; rfl
theorem setL_length : ∀ (vs c : List Value) (o : Nat), (setL c o vs).length = c.length
  | [], c, o => rfl
  | v :: vs, c, o => by simp only [setL]; rw [setL_length vs]; simp
theorem setL_get : ∀ (vs c : List Value) (o k : Nat), o + vs.length ≤ c.length → (setL c o vs)[k]? = if o ≤ k ∧ k < o + vs.length then vs[k - o]? else c[k]?
  | [], c, o, k, _ => by
    simp only [setL, List.length_nil, Nat.add_zero]
    rw [if_neg (by omega)]
  | v :: vs, c, o, k, h => by
    simp only [List.length_cons] at h
    simp only [setL]
    rw [setL_get vs _ _ _ (by simp; omega)]
    by_cases h1 : k = o
    · subst h1
      rw [if_neg (by omega), if_pos (by simp)]
      simp only [Nat.sub_self, List.getElem?_cons_zero]
      rw [List.getElem?_set_self (by omega)]
    · by_cases h2 : o + 1 ≤ k ∧ k < o + 1 + vs.length
      · rw [if_pos h2, if_pos (by simp; omega)]
        obtain ⟨m, rfl⟩ : ∃ m, k = o + 1 + m := ⟨k - (o + 1), by omega⟩
        have e1 : o + 1 + m - (o + 1) = m := by omega
        have e2 : o + 1 + m - o = m + 1 := by omega
        rw [e1, e2, List.getElem?_cons_succ]
      · rw [if_neg h2, if_neg (by simp only [List.length_cons]; omega), List.getElem?_set_ne (Ne.symm h1)]
end AH

/-- what is as it was, but for some blocks -/
structure Fr (S : List Nat) (h h' : AH) : Prop where
  n : h.n ≤ h'.n
  g : ∀ b, b < h.n → b ∉ S → h'.get b = h.get b
theorem Fr.refl (S : List Nat) (h : AH) : Fr S h h := ⟨Nat.le_refl _, fun _ _ _ => rfl⟩
theorem Fr.trans {S : List Nat} {h h1 h2 : AH} (a : Fr S h h1) (b : Fr S h1 h2) : Fr S h h2 :=
  ⟨Nat.le_trans a.n b.n, fun x h1 h2 => (b.g x (Nat.lt_of_lt_of_le h1 a.n) h2).trans (a.g x h1 h2)⟩
theorem Fr.mono {S U : List Nat} {h h' : AH} (a : Fr S h h') (hs : ∀ x, x ∈ S → x < h.n → x ∈ U) : Fr U h h' :=
  ⟨a.n, fun b h1 h2 => a.g b h1 fun hm => h2 (hs b hm h1)⟩
theorem Fr.push (S : List Nat) (h : AH) (x : Blk) : Fr S h (h.push x) :=
  ⟨Nat.le_succ _, fun b hb _ => AH.get_push_ne _ (by omega)⟩
theorem Fr.set {S : List Nat} (h : AH) {b : Nat} (x : Option Blk) (hb : b ∈ S) : Fr S h (h.set b x) :=
  ⟨Nat.le_refl _, fun b' _ hn => AH.get_set_ne _ (fun e => hn (e ▸ hb))⟩

section flat
variable {α : Type} {enc : α → List Value} {sz : Nat}
theorem flat_len (hs : ∀ a, (enc a).length = sz) : ∀ l : List α, (l.flatMap enc).length = l.length * sz
  | [] => by simp
  | a :: l => by simp only [List.flatMap_cons, List.length_append, hs, flat_len hs l, List.length_cons]; rw [Nat.add_mul]; omega
theorem flat_get (hs : ∀ a, (enc a).length = sz) {j : Nat} (hj : j < sz) : ∀ (l : List α) (i : Nat), (l.flatMap enc)[i * sz + j]? = (l[i]?).bind fun a => (enc a)[j]?
  | [], i => by simp
  | a :: l, 0 => by
    simp only [List.flatMap_cons, Nat.zero_mul, Nat.zero_add, List.getElem?_cons_zero, Option.bind_some]
    rw [List.getElem?_append_left (by rw [hs]; exact hj)]
  | a :: l, i + 1 => by
    simp only [List.flatMap_cons, List.getElem?_cons_succ]
    rw [List.getElem?_append_right (by rw [hs, Nat.add_mul]; omega), hs, show (i + 1) * sz + j - sz = i * sz + j by rw [Nat.add_mul]; omega]
    exact flat_get hs hj l i
theorem flat_get_some (hs : ∀ a, (enc a).length = sz) {j : Nat} (hj : j < sz) {l : List α} {i : Nat} {a : α} (hi : l[i]? = some a) : (l.flatMap enc)[i * sz + j]? = (enc a)[j]? := by
  rw [flat_get hs hj, hi]; rfl
theorem flat_set (hs : ∀ a, (enc a).length = sz) {i j : Nat} {l : List α} {a a' : α} {vs : List Value} (hi : l[i]? = some a) (hj : j + vs.length ≤ sz) (ha : AH.setL (enc a) j vs = enc a') :
    AH.setL (l.flatMap enc) (i * sz + j) vs = (l.set i a').flatMap enc := by
  have hil : i < l.length := by
    rcases Nat.lt_or_ge i l.length with h | h
    · exact h
    · rw [List.getElem?_eq_none h] at hi; cases hi
  have hb : i * sz + sz ≤ l.length * sz := by
    have := Nat.mul_le_mul_right sz (Nat.succ_le_of_lt hil)
    rw [Nat.succ_mul] at this; exact this
  apply List.ext_getElem?
  intro k
  rw [AH.setL_get _ _ _ _ (by rw [flat_len hs]; omega)]
  rcases Nat.eq_zero_or_pos sz with h0 | h0
  · have hvs : vs = [] := List.eq_nil_of_length_eq_zero (by omega)
    subst hvs
    rw [if_neg (by simp), List.getElem?_eq_none (by rw [flat_len hs, h0]; omega), List.getElem?_eq_none (by rw [flat_len hs, h0]; omega)]
  · have hd := Nat.div_add_mod k sz
    have hm := Nat.mod_lt k h0
    have hk : k = (k / sz) * sz + k % sz := by rw [Nat.mul_comm]; exact hd.symm
    generalize k / sz = q at hk
    generalize k % sz = m at hk hm
    subst hk
    rw [flat_get hs hm, flat_get hs hm]
    by_cases hq : q = i
    · subst hq
      rw [List.getElem?_set_self hil, hi]
      simp only [Option.bind_some]
      rw [← ha, AH.setL_get _ _ _ _ (by rw [hs]; exact hj)]
      by_cases hc : j ≤ m ∧ m < j + vs.length
      · rw [if_pos (by omega), if_pos hc]
        congr 1; omega
      · rw [if_neg (by omega), if_neg hc]
    · rw [List.getElem?_set_ne (Ne.symm hq)]
      have : ¬(i * sz + j ≤ q * sz + m ∧ q * sz + m < i * sz + j + vs.length) := by
        rintro ⟨h1, h2⟩
        rcases Nat.lt_or_ge q i with h | h
        · have := Nat.mul_le_mul_right sz (Nat.succ_le_of_lt h)
          rw [Nat.succ_mul] at this; omega
        · have := Nat.mul_le_mul_right sz (Nat.succ_le_of_lt (Nat.lt_of_le_of_ne h (Ne.symm hq)))
          rw [Nat.succ_mul] at this; omega
      rw [if_neg this]
theorem flat_rep (a : α) : ∀ n, repL (enc a) n = (List.replicate n a).flatMap enc
  | 0 => rfl
  | n + 1 => by simp only [repL, List.replicate_succ, List.flatMap_cons]; rw [flat_rep a n]
end flat

theorem wrap64 {x : Int} (h1 : -9223372036854775808 ≤ x) (h2 : x < 9223372036854775808) : IntKind.wrap .i64 x = x := IntWalk.i64_in x ⟨h1, by omega⟩
end Go.Lg
