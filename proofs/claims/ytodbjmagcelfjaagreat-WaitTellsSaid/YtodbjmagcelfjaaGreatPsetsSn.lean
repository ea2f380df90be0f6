/- The document's sets: rising puts a list in order. -/
import Derived.Test.YtodbjmagcelfjaaGreatFref15
import Derived.Test.YtodbjmagcelfjaaGreatPsetsJ
import Derived.Test.YtodbjmagcelfjaaGreatPkitPick
set_option linter.unusedVariables false
set_option linter.unusedSimpArgs false
namespace Go.Lg.Tryz
set_option linter.unusedVariables false
set_option linter.unusedSimpArgs false
open Go Go.Proofs
theorem sortI_of {l m : List Int} (hp : m.Perm l) (hs : ∀ (p q : Nat) (x y : Int), p < q → m[p]? = some x → m[q]? = some y → x ≤ y) : m = sortI l := by
  have h1 : m.Pairwise (fun a b => decide (a ≤ b) = true) := by
    rw [List.pairwise_iff_getElem]
    intro i j hi hj hij
    exact decide_eq_true (hs i j _ _ hij (List.getElem?_eq_getElem hi) (List.getElem?_eq_getElem hj))
  have tr : ∀ a b c : Int, decide (a ≤ b) = true → decide (b ≤ c) = true → decide (a ≤ c) = true := fun a b c h1 h2 => by simp only [decide_eq_true_eq] at *; exact Int.le_trans h1 h2
  have to : ∀ a b : Int, (decide (a ≤ b) || decide (b ≤ a)) = true := fun a b => by simp only [Bool.or_eq_true, decide_eq_true_eq]; exact Int.le_total a b
  have h2 : (sortI l).Pairwise (fun a b => decide (a ≤ b) = true) := List.pairwise_mergeSort tr to l
  exact List.Perm.eq_of_pairwise (le := fun a b => decide (a ≤ b) = true) (fun a b _ _ h1 h2 => Int.le_antisymm (of_decide_eq_true h1) (of_decide_eq_true h2)) h1 h2 (hp.trans (List.mergeSort_perm l _).symm)
/-- one place of a list that append has made turns -/
theorem Ow.st1 {h : AH} {b n c : Nat} {l : List Int} (ho : Ow h 1 (some ⟨b, 0, none⟩) n c (l.flatMap encI)) {k : Nat} (hk : k < l.length) (x : Int) : ∃ h', h.st b (0 + k * 1) [.int .i64 x] = some h' ∧ Ow h' 1 (some ⟨b, 0, none⟩) n c ((l.set k x).flatMap encI) ∧ h'.n = h.n ∧ ∀ b', b' ≠ b → h'.get b' = h.get b' := by
  cases ho with
  | mk hb hl hn =>
    have hlen : (l.flatMap encI).length = l.length * 1 := flat_len encI_len l
    obtain ⟨y, hy⟩ : ∃ y, l[k]? = some y := ⟨_, List.getElem?_eq_getElem hk⟩
    have hset := flat_set (enc := encI) (sz := 1) encI_len (i := k) (j := 0) (a := y) (a' := x) (vs := [.int .i64 x]) hy (Nat.le_refl 1) rfl
    refine ⟨_, AH.st_of hb (by rw [hlen]; simp only [List.length_cons, List.length_nil]; omega), .mk ?_ (by rw [flat_len encI_len, List.length_set]; rw [hlen] at hl; omega) hn, rfl, fun b' hne => AH.get_set_ne _ hne⟩
    rw [AH.get_set_eq, Nat.zero_add]
    rw [Nat.add_zero] at hset
    rw [hset]
/-- in order, but for the place k -/
def InsOk (m : List Int) (i k : Nat) : Prop := ∀ (p q : Nat) (x y : Int), p < q → q ≤ i → q ≠ k → m[p]? = some x → m[q]? = some y → x ≤ y
theorem InsOk.zero {m : List Int} {i : Nat} (h : InsOk m i 0) : ∀ (p q : Nat) (x y : Int), p < q → q ≤ i → m[p]? = some x → m[q]? = some y → x ≤ y := fun p q x y h1 h2 => h p q x y h1 h2 (by omega)
theorem InsOk.swap {m : List Int} {i k : Nat} (h : InsOk m i k) (hk : 0 < k) (hki : k ≤ i) (hi : i < m.length) {u v : Int} (hu : m[k - 1]? = some u) (hv : m[k]? = some v) (hlt : v < u) : InsOk ((m.set k u).set (k - 1) v) i (k - 1) := by
  intro p q x y h1 h2 h3 hx hy
  have get : ∀ j z, ((m.set k u).set (k - 1) v)[j]? = some z → (j = k - 1 ∧ z = v) ∨ (j = k ∧ z = u) ∨ (j ≠ k ∧ j ≠ k - 1 ∧ m[j]? = some z) := by
    intro j z hz
    rw [List.getElem?_set] at hz
    by_cases e1 : k - 1 = j
    · rw [if_pos e1, if_pos (by rw [List.length_set]; omega)] at hz
      exact .inl ⟨e1.symm, (Option.some.inj hz).symm⟩
    · rw [if_neg e1, List.getElem?_set] at hz
      by_cases e2 : k = j
      · rw [if_pos e2, if_pos (by omega)] at hz
        exact .inr (.inl ⟨e2.symm, (Option.some.inj hz).symm⟩)
      · rw [if_neg e2] at hz
        exact .inr (.inr ⟨fun e => e2 e.symm, fun e => e1 e.symm, hz⟩)
  rcases get q y hy with ⟨rfl, rfl⟩ | ⟨rfl, rfl⟩ | ⟨g1, g2, g3⟩
  · exact absurd rfl h3
  · rcases get p x hx with ⟨rfl, rfl⟩ | ⟨rfl, rfl⟩ | ⟨f1, f2, f3⟩
    · omega
    · omega
    · exact h p (q - 1) x y (by omega) (by omega) (by omega) f3 hu
  · rcases get p x hx with ⟨rfl, rfl⟩ | ⟨rfl, rfl⟩ | ⟨f1, f2, f3⟩
    · exact h k q x y (by omega) h2 g1 hv g3
    · exact h (p - 1) q x y (by omega) h2 g1 hu g3
    · exact h p q x y h1 h2 g1 f3 g3
section
variable {b c : Nat} {l : List Int}
end
end Go.Lg.Tryz

namespace Go.Lg.Tryz
set_option linter.unusedVariables false
set_option linter.unusedSimpArgs false
open Go Go.Proofs
def encQ (p : Int × Int) : List Value := [.int .i64 p.1, .int .i64 p.2]
theorem encQ_len (p : Int × Int) : (encQ p).length = 2 := rfl
abbrev Sl := Option Addr × Nat × Nat
def encSl (t : Sl) : List Value := [.slice t.1 t.2.1 t.2.2]
theorem encSl_len (t : Sl) : (encSl t).length = 1 := rfl
/-- a slice of its holder's own, or an empty one that is not nil -/
inductive OwE (h : AH) (sz : Nat) : Option Addr → Nat → Nat → List Value → Prop
  | s {a : Option Addr} {n c : Nat} {cs : List Value} (ho : OwS h sz a n c cs) : OwE h sz a n c cs
  | z {b : Nat} (hb : h.get b = some (.cells [] false false sz)) (hn : b < h.n) : OwE h sz (some ⟨b, 0, none⟩) 0 0 []
namespace OwE
variable {h h' : AH} {sz : Nat} {a : Option Addr} {n c : Nat} {cs : List Value}
theorem same (ho : OwE h sz a n c cs) (hg : ∀ b, b < h.n → blk a b → h'.get b = h.get b) (hn : h.n ≤ h'.n) : OwE h' sz a n c cs := by
  cases ho with
  | s ho => exact .s (ho.same hg hn)
  | z hb hl => exact .z (by rw [hg _ hl rfl]; exact hb) (Nat.lt_of_lt_of_le hl hn)
theorem len (ho : OwE h sz a n c cs) : cs.length = n * sz := by
  cases ho with
  | s ho => exact ho.len
  | z hb hl => simp
theorem rd (ho : OwE h sz a n c cs) : Rd h a cs := by
  cases ho with
  | s ho => exact ho.rd
  | z hb hl => exact .inl rfl
theorem lt (ho : OwE h sz a n c cs) : ∀ b, blk a b → b < h.n := by
  cases ho with
  | s ho => exact ho.lt
  | z hb hl => intro b hb; obtain rfl : _ = b := hb; exact hl
theorem app {by_ : Nat} {xs : List Value} {x : Value} (ho : OwE h sz a n c cs) (hx : newCells h sz x = some (1, xs)) (hm : xs.length = sz) (hsz : 0 < sz)
    (hr : (n + 1) * by_ ≤ 1099511627776) (hr2 : n + 1 ≤ 1099511627776) : ∃ a' h', appE sz by_ (.slice a n c) x h = some (.slice a' (n + 1) opn, h') ∧ OwS h' sz a' (n + 1) opn (cs ++ xs) ∧ h.n ≤ h'.n ∧
      (∀ b, b < h.n → ¬ blk a b → h'.get b = h.get b) ∧ (∀ b, blk a' b → blk a b ∨ h.n ≤ b) := by
  cases ho with
  | s ho => exact ho.app hx hm hsz hr hr2
  | @z b hb hl =>
    have e1 : Nat.ble (0 + 1) 0 = false := rfl
    have e2 : ldRow h b 0 (0 * sz) = some [] := by simp only [ldRow, hb, Nat.zero_mul]; rfl
    refine ⟨some ⟨h.n, 0, none⟩, h.push (.cells xs true false sz), ?_, .mk (rest := []) (m := 0) (by rw [AH.get_push_eq]; simp) (by simpa using hm) (by simp) (by simp [AH.push]), Nat.le_succ _, fun b hb _ => AH.get_push_ne _ (by omega), fun b hb => ?_⟩
    · have e3 : Nat.beq xs.length (1 * sz) = true := by rw [hm, Nat.one_mul]; exact Nat.beq_refl _
      simp only [appE, hx, Option.bind_some, roomOk_t hr hr2, Bool.true_and, e3, cond_true, blt_small (show 0 < 4611686018427387904 by omega), e1, cond_false, e2, List.nil_append]
    · obtain rfl : h.n = b := hb; exact .inr (Nat.le_refl _)
/-- all of it, as what is appended -/
theorem row (ho : OwE h sz a n c cs) : newCells h sz (.slice a n c) = some (n, cs) := by
  cases ho with
  | s ho =>
    cases ho with
    | nil => rfl
    | @mk b _ m _ rest hb hl hr hn =>
      simp only [newCells, ldRow, hb, Nat.zero_add, List.drop_zero]
      rw [Nat.ble_eq_true_of_le (by rw [List.length_append]; omega), cond_true, ← hl, List.take_left' rfl]
      rfl
  | z hb hl =>
    simp only [newCells, ldRow, hb, Nat.zero_mul]
    rfl
end OwE
/-- a copy behind an empty one -/
theorem snap_of {h : AH} {sz by_ b n : Nat} {cs : List Value} {x : Value} (hb : h.get b = some (.cells [] false false sz)) (hbn : b < h.n) (hx : newCells h sz x = some (n, cs)) (hl : cs.length = n * sz) (hsz : 0 < sz) (hr : n * by_ ≤ 1099511627776) (hr2 : n ≤ 1099511627776) :
    ∃ a' c' h', appE sz by_ (.slice (some ⟨b, 0, none⟩) 0 0) x h = some (.slice a' n c', h') ∧ OwE h' sz a' n c' cs ∧ h.n ≤ h'.n ∧ (∀ b', b' < h.n → h'.get b' = h.get b') ∧ (∀ b', blk a' b' → b' = b ∨ h.n ≤ b') := by
  have e2 : ldRow h b 0 (0 * sz) = some [] := by simp only [ldRow, hb, Nat.zero_mul]; rfl
  have e3 : Nat.beq cs.length (n * sz) = true := by rw [hl]; exact Nat.beq_refl _
  have e4 : Nat.blt 0 opn = true := blt_small (by omega)
  by_cases h0 : n = 0
  · subst h0
    have hcs : cs = [] := List.eq_nil_of_length_eq_zero (by omega)
    subst hcs
    have hst : h.st b (0 + 0 * sz) [] = some (h.set b (some (.cells [] false false sz))) := by rw [AH.st_of hb (by simp)]; rfl
    have hg : ∀ b', (h.set b (some (.cells [] false false sz))).get b' = h.get b' := fun b' => by
      by_cases e : b' = b
      · subst e; rw [AH.get_set_eq, hb]
      · rw [AH.get_set_ne _ e]
    refine ⟨some ⟨b, 0, none⟩, 0, h.set b (some (.cells [] false false sz)), ?_, .z (by rw [hg]; exact hb) hbn, Nat.le_refl _, fun b' _ => hg b', fun b' hb' => .inl hb'.symm⟩
    have e5 : Nat.ble (0 + 0) 0 = true := rfl
    have e6 : roomOk (0 + 0) by_ = true := roomOk_t (by omega) (by omega)
    simp only [appE, hx, Option.bind_some, e6, Bool.true_and, e3, cond_true, e4, e5, hst]
  · have e5 : Nat.ble (0 + n) 0 = false := by
      cases hq : Nat.ble (0 + n) 0 with
      | false => rfl
      | true => have := Nat.le_of_ble_eq_true hq; omega
    have e6 : roomOk (0 + n) by_ = true := roomOk_t (by rw [Nat.zero_add]; exact hr) (by omega)
    refine ⟨some ⟨h.n, 0, none⟩, opn, h.push (.cells cs true false sz), ?_, .s (.mk (rest := []) (m := 0) (by rw [AH.get_push_eq, List.append_nil]) hl (by simp) (by simp [AH.push])), Nat.le_succ _, fun b' hb' => AH.get_push_ne _ (by omega), fun b' hb' => ?_⟩
    · rw [Nat.zero_add] at e5 e6
      simp only [appE, hx, Option.bind_some, Nat.zero_add, e6, Bool.true_and, e3, cond_true, e4, e5, cond_false, e2, List.nil_append]
    · obtain rfl : h.n = b' := hb'; exact .inr (Nat.le_refl _)
theorem setL_left {cs rest vs : List Value} {o : Nat} (ho : o + vs.length ≤ cs.length) : AH.setL (cs ++ rest) o vs = AH.setL cs o vs ++ rest := by
  apply List.ext_getElem?
  intro k
  rw [AH.setL_get _ _ _ _ (by rw [List.length_append]; omega)]
  by_cases h1 : k < cs.length
  · have h2 : k < (AH.setL cs o vs).length := by rw [AH.setL_length]; exact h1
    rw [List.getElem?_append_left h2, AH.setL_get _ _ _ _ ho, List.getElem?_append_left h1]
  · rw [if_neg (by omega), List.getElem?_append_right (by omega), List.getElem?_append_right (by rw [AH.setL_length]; omega), AH.setL_length]
/-- a part of an element turns -/
theorem OwE.st {α : Type} {enc : α → List Value} {h : AH} {sz : Nat} (hs : ∀ a, (enc a).length = sz) {ad : Addr} {n c : Nat} {l : List α} (ho : OwE h sz (some ad) n c (l.flatMap enc)) {i j : Nat} {x x' : α} {vs : List Value} (hi : l[i]? = some x) (hj : j + vs.length ≤ sz) (hv : vs ≠ []) (ha : AH.setL (enc x) j vs = enc x') :
    ∃ h', h.st ad.block (ad.off + (i * sz + j)) vs = some h' ∧ OwE h' sz (some ad) n c ((l.set i x').flatMap enc) ∧ h'.n = h.n ∧ ∀ b, ¬ blk (some ad) b → h'.get b = h.get b := by
  have hvl : 0 < vs.length := List.length_pos_iff.mpr hv
  have hil : i < l.length := (List.getElem?_eq_some_iff.mp hi).1
  have hb : i * sz + sz ≤ l.length * sz := by
    have := Nat.mul_le_mul_right sz (Nat.succ_le_of_lt hil)
    rw [Nat.succ_mul] at this; exact this
  have hfl := flat_len hs l
  have hset := flat_set hs hi hj ha
  have hfl2 := flat_len hs (l.set i x')
  rw [List.length_set] at hfl2
  generalize l.flatMap enc = cs at ho hset hfl
  generalize (l.set i x').flatMap enc = cs' at hset hfl2 ⊢
  cases ho with
  | z hb' hl => simp only [List.length_nil] at hfl; omega
  | s ho =>
    cases ho with
    | @mk b _ m _ rest hg hl hr hn =>
      refine ⟨_, AH.st_of hg (by rw [List.length_append, Nat.zero_add]; omega), .s (.mk (rest := rest) (m := m) ?_ (by omega) hr hn), rfl, fun b' hb' => AH.get_set_ne _ (fun e => hb' e.symm)⟩
      rw [AH.get_set_eq, Nat.zero_add, setL_left (by omega), hset]
def dj (a b : Option Addr) : Prop := ∀ x, blk a x → ¬ blk b x
theorem dj_symm {a b : Option Addr} (h : dj a b) : dj b a := fun x h1 h2 => h x h2 h1
theorem dj_upd {l1 l2 : List (Option Addr)} {a a' : Option Addr} {N : Nat} (h : List.Pairwise dj (l1 ++ a :: l2)) (hb : ∀ x, x ∈ l1 ++ l2 → ∀ b, blk x b → b < N) (ha : ∀ b, blk a' b → blk a b ∨ N ≤ b) : List.Pairwise dj (l1 ++ a' :: l2) := by
  rw [List.pairwise_append, List.pairwise_cons] at h ⊢
  obtain ⟨h1, ⟨h2, h3⟩, h4⟩ := h
  refine ⟨h1, ⟨fun y hy b hb1 hb2 => ?_, h3⟩, fun x hx y hy => ?_⟩
  · rcases ha b hb1 with h5 | h5
    · exact h2 y hy b h5 hb2
    · have := hb y (List.mem_append_right _ hy) b hb2; omega
  · rcases List.mem_cons.mp hy with rfl | hy
    · intro b hb1 hb2
      rcases ha b hb2 with h5 | h5
      · exact h4 x hx a (by simp) b hb1 h5
      · have := hb x (List.mem_append_left _ hx) b hb1; omega
    · exact h4 x hx y (by simp [hy])
/-- the cells around -/
structure Us where
  a : Value
  b : Value
  c : Value
  d : Value
  e : Value
  f : Value
structure RA where
  ra : Option Addr
  rn : Nat
  rc : Nat
  wa : Option Addr
  wn : Nat
  wc : Nat
  ma : Option Addr
  mn : Nat
  mc : Nat
  sl : List Sl
def RA.ls (r : Nat) (A : RA) : List (Option Addr) := some ⟨r, 0, none⟩ :: A.ra :: A.wa :: A.ma :: A.sl.map (·.1)
def rown (r : Nat) (A : RA) (b : Nat) : Prop := ∃ a ∈ A.ls r, blk a b
structure RR (u : Us) (h : AH) (r : Nat) (A : RA) (R W : List (Int × Int)) (sn : List (List (Int × Int))) : Prop where
  g : h.get r = some (.cells [u.a, u.b, u.c, .slice A.ra A.rn A.rc, .slice A.wa A.wn A.wc, .slice A.ma A.mn A.mc, u.d, u.e, u.f] false false 9)
  R : OwS h 2 A.ra A.rn A.rc (R.flatMap encQ)
  W : OwE h 2 A.wa A.wn A.wc (W.flatMap encQ)
  M : OwS h 1 A.ma A.mn A.mc (A.sl.flatMap encSl)
  S : ∀ (k : Nat) (t : Sl), A.sl[k]? = some t → ∃ w, sn[k]? = some w ∧ OwE h 2 t.1 t.2.1 t.2.2 (w.flatMap encQ)
  l : A.sl.length = sn.length
  d : List.Pairwise dj (A.ls r)
  n : r < h.n
section
variable {u : Us} {h h' : AH} {r : Nat} {A : RA} {R W : List (Int × Int)} {sn : List (List (Int × Int))}
namespace RR
theorem rl (hr : RR u h r A R W sn) : A.rn = R.length := by have := hr.R.len; rw [flat_len encQ_len] at this; omega
theorem wl (hr : RR u h r A R W sn) : A.wn = W.length := by have := hr.W.len; rw [flat_len encQ_len] at this; omega
theorem ml (hr : RR u h r A R W sn) : A.mn = sn.length := by have := hr.M.len; rw [flat_len encSl_len] at this; have := hr.l; omega
theorem c0 (hr : RR u h r A R W sn) : h.ldS r (0 + 3 + 0) = some (A.ra, A.rn, A.rc) := AH.ldS_of hr.g rfl
theorem c1 (hr : RR u h r A R W sn) : h.ldS r (0 + 3 + 1) = some (A.wa, A.wn, A.wc) := AH.ldS_of hr.g rfl
theorem c2 (hr : RR u h r A R W sn) : h.ldS r (0 + 3 + 2) = some (A.ma, A.mn, A.mc) := AH.ldS_of hr.g rfl
theorem o0 : rown r A r := ⟨_, .head _, rfl⟩
theorem oR {b : Nat} (hb : blk A.ra b) : rown r A b := ⟨_, .tail _ (.head _), hb⟩
theorem oW {b : Nat} (hb : blk A.wa b) : rown r A b := ⟨_, .tail _ (.tail _ (.head _)), hb⟩
theorem oM {b : Nat} (hb : blk A.ma b) : rown r A b := ⟨_, .tail _ (.tail _ (.tail _ (.head _))), hb⟩
theorem oS {b k : Nat} {t : Sl} (ht : A.sl[k]? = some t) (hb : blk t.1 b) : rown r A b := ⟨_, .tail _ (.tail _ (.tail _ (.tail _ (List.mem_map.mpr ⟨t, List.mem_of_getElem? ht, rfl⟩)))), hb⟩
theorem lt (hr : RR u h r A R W sn) : ∀ x ∈ A.ls r, ∀ b, blk x b → b < h.n := by
  intro x hx b hb
  unfold RA.ls at hx
  rcases List.mem_cons.mp hx with rfl | hx
  · obtain rfl : r = b := hb; exact hr.n
  rcases List.mem_cons.mp hx with rfl | hx
  · exact hr.R.lt b hb
  rcases List.mem_cons.mp hx with rfl | hx
  · exact hr.W.lt b hb
  rcases List.mem_cons.mp hx with rfl | hx
  · exact hr.M.lt b hb
  obtain ⟨t, ht, rfl⟩ := List.mem_map.mp hx
  obtain ⟨k, hk⟩ := List.getElem?_of_mem ht
  obtain ⟨w, _, hw⟩ := hr.S k t hk
  exact hw.lt b hb
theorem same (hr : RR u h r A R W sn) (hg : ∀ b, b < h.n → rown r A b → h'.get b = h.get b) (hn : h.n ≤ h'.n) : RR u h' r A R W sn :=
  ⟨by rw [hg r hr.n o0]; exact hr.g, hr.R.same (fun b h1 h2 => hg b h1 (oR h2)) hn, hr.W.same (fun b h1 h2 => hg b h1 (oW h2)) hn, hr.M.same (fun b h1 h2 => hg b h1 (oM h2)) hn,
    fun k t ht => by obtain ⟨w, h1, h2⟩ := hr.S k t ht; exact ⟨w, h1, h2.same (fun b g1 g2 => hg b g1 (oS ht g2)) hn⟩, hr.l, hr.d, Nat.lt_of_lt_of_le hr.n hn⟩
theorem fr (hr : RR u h r A R W sn) (hf : Fr [] h h') : RR u h' r A R W sn := hr.same (fun b hb _ => hf.g b hb (by simp)) hf.n
end RR
/-- what a call on the document's sets may change -/
structure Mr (r : Nat) (A A' : RA) (h h' : AH) : Prop where
  n : h.n ≤ h'.n
  g : ∀ b, b < h.n → ¬ rown r A b → h'.get b = h.get b
  o : ∀ b, rown r A' b → rown r A b ∨ h.n ≤ b
theorem Mr.refl (r : Nat) (A : RA) (h : AH) : Mr r A A h h := ⟨Nat.le_refl _, fun _ _ _ => rfl, fun _ hb => .inl hb⟩
theorem r0 {x y z v : Value} (g : h.get r = some (.cells [u.a, u.b, u.c, x, y, z, u.d, u.e, u.f] false false 9)) : ∃ h', h.st r (0 + 3 + 0) [v] = some h' ∧ h'.get r = some (.cells [u.a, u.b, u.c, v, y, z, u.d, u.e, u.f] false false 9) ∧ h'.n = h.n ∧ ∀ b, b ≠ r → h'.get b = h.get b :=
  ⟨_, AH.st_of g (by simp), AH.get_set_eq _ _ _, rfl, fun b hb => AH.get_set_ne _ hb⟩
theorem r1 {x y z v : Value} (g : h.get r = some (.cells [u.a, u.b, u.c, x, y, z, u.d, u.e, u.f] false false 9)) : ∃ h', h.st r (0 + 3 + 1) [v] = some h' ∧ h'.get r = some (.cells [u.a, u.b, u.c, x, v, z, u.d, u.e, u.f] false false 9) ∧ h'.n = h.n ∧ ∀ b, b ≠ r → h'.get b = h.get b :=
  ⟨_, AH.st_of g (by simp), AH.get_set_eq _ _ _, rfl, fun b hb => AH.get_set_ne _ hb⟩
theorem r2 {x y z v : Value} (g : h.get r = some (.cells [u.a, u.b, u.c, x, y, z, u.d, u.e, u.f] false false 9)) : ∃ h', h.st r (0 + 3 + 2) [v] = some h' ∧ h'.get r = some (.cells [u.a, u.b, u.c, x, y, v, u.d, u.e, u.f] false false 9) ∧ h'.n = h.n ∧ ∀ b, b ≠ r → h'.get b = h.get b :=
  ⟨_, AH.st_of g (by simp), AH.get_set_eq _ _ _, rfl, fun b hb => AH.get_set_ne _ hb⟩
theorem dj_at {l1 l2 : List (Option Addr)} {a x : Option Addr} (h : List.Pairwise dj (l1 ++ a :: l2)) (hx : x ∈ l1 ++ l2) : dj x a := by
  rw [List.pairwise_append, List.pairwise_cons] at h
  rcases List.mem_append.mp hx with hx | hx
  · exact h.2.2 x hx a (by simp)
  · exact dj_symm (h.2.1.1 x hx)
theorem ls1 {y : Option Addr} (hy : y ∈ [some (⟨r, 0, none⟩ : Addr)] ++ (A.wa :: A.ma :: A.sl.map (·.1))) : y ∈ A.ls r := by
  rcases List.mem_cons.mp hy with hy | hy
  · rw [hy]; exact .head _
  · exact .tail _ (.tail _ hy)
theorem RR.pushR (hr : RR u h r A R W sn) (x : Int × Int) (hl : R.length < 1000000) : ∃ a' h2 h3, appE 2 16 (.slice A.ra A.rn A.rc) (.slice (some ⟨h.n, 0, none⟩) 1 1) (h.push (.cells (encQ x) false false 2)) = some (.slice a' (A.rn + 1) opn, h2) ∧
    h2.st r (0 + 3 + 0) [.slice a' (A.rn + 1) opn] = some h3 ∧ RR u h3 r { A with ra := a', rn := A.rn + 1, rc := opn } (R ++ [x]) W sn ∧ Mr r A { A with ra := a', rn := A.rn + 1, rc := opn } h h3 := by
  have hf1 : Fr [] h (h.push (.cells (encQ x) false false 2)) := Fr.push _ _ _
  have hs1 := hr.fr hf1
  have hrl := hr.rl
  obtain ⟨a', h2, e1, e2, e3, e4, e5⟩ := hs1.R.app (by_ := 16) (newCells_one (c := 1) (AH.get_push_eq h (.cells (encQ x) false false 2)) rfl) rfl (by decide) (by omega) (by omega)
  have D : List.Pairwise dj ([some ⟨r, 0, none⟩] ++ A.ra :: (A.wa :: A.ma :: A.sl.map (·.1))) := hr.d
  have oth : ∀ y, y ∈ [some (⟨r, 0, none⟩ : Addr)] ++ (A.wa :: A.ma :: A.sl.map (·.1)) → ∀ b, blk y b → b < h.n ∧ ¬ blk A.ra b := fun y hy b hb => ⟨hr.lt y (ls1 hy) b hb, fun hb2 => dj_at D hy b hb hb2⟩
  have hg2 : ∀ b, b < h.n → ¬ blk A.ra b → h2.get b = (h.push (.cells (encQ x) false false 2)).get b := fun b hb hn => e4 b (by rw [AH.n_push]; omega) hn
  have rr := oth (some ⟨r, 0, none⟩) (by simp) r rfl
  obtain ⟨h3, f1, f2, f3, f4⟩ := r0 (v := .slice a' (A.rn + 1) opn) (by rw [hg2 r rr.1 rr.2]; exact hs1.g)
  have hn3 : h.n ≤ h3.n := by rw [f3]; exact Nat.le_trans (Nat.le_succ _) e3
  have hn4 : (h.push (.cells (encQ x) false false 2)).n ≤ h3.n := by rw [f3]; exact e3
  have gg : ∀ b, b < h.n → ¬ blk A.ra b → b ≠ r → h3.get b = (h.push (.cells (encQ x) false false 2)).get b := fun b hb hn hne => (f4 b hne).trans (hg2 b hb hn)
  have gr : ∀ y, y ∈ A.wa :: A.ma :: A.sl.map (·.1) → ∀ b, blk y b → h3.get b = (h.push (.cells (encQ x) false false 2)).get b := fun y hy b hb => gg b (oth y (List.mem_append_right _ hy) b hb).1 (oth y (List.mem_append_right _ hy) b hb).2 fun e => by
    have D2 : List.Pairwise dj ([] ++ some ⟨r, 0, none⟩ :: (A.ra :: A.wa :: A.ma :: A.sl.map (·.1))) := hr.d
    exact dj_at D2 (x := y) (by simp only [List.nil_append]; exact .tail _ hy) b hb (by rw [e]; rfl)
  refine ⟨a', h2, h3, e1, f1, ⟨f2, ?_, hs1.W.same (fun b _ hb => gr _ (.head _) b hb) hn4, hs1.M.same (fun b _ hb => gr _ (.tail _ (.head _)) b hb) hn4, fun k t ht => ?_, hr.l, ?_, Nat.lt_of_lt_of_le hr.n hn3⟩, ⟨hn3, fun b hb ho => ?_, fun b ho => ?_⟩⟩
  · have : (R ++ [x]).flatMap encQ = R.flatMap encQ ++ encQ x := by simp
    rw [this]
    refine e2.same (fun b hb hk => f4 b fun e => ?_) (by omega)
    subst e
    rcases e5 b hk with h5 | h5
    · exact rr.2 h5
    · rw [AH.n_push] at h5; omega
  · obtain ⟨w, g1, g2⟩ := hs1.S k t ht
    exact ⟨w, g1, g2.same (fun b _ hb => gr t.1 (.tail _ (.tail _ (List.mem_map.mpr ⟨t, List.mem_of_getElem? ht, rfl⟩))) b hb) hn4⟩
  · exact dj_upd (N := h.n) D (fun y hy b hb => (oth y hy b hb).1) fun b hb => (e5 b hb).imp id fun h5 => by rw [AH.n_push] at h5; omega
  · rw [gg b hb (fun hp => ho (RR.oR hp)) (fun e => ho (e ▸ RR.o0)), AH.get_push_ne _ (by omega)]
  · obtain ⟨y, hy, hb⟩ := ho
    unfold RA.ls at hy
    rcases List.mem_cons.mp hy with rfl | hy
    · exact .inl ⟨_, .head _, hb⟩
    rcases List.mem_cons.mp hy with rfl | hy
    · exact (e5 b hb).imp RR.oR fun h5 => by rw [AH.n_push] at h5; omega
    · exact .inl ⟨y, .tail _ (.tail _ hy), hb⟩
end
end Go.Lg.Tryz

namespace Go.Lg.Tryz
set_option linter.unusedVariables false
set_option linter.unusedSimpArgs false
open Go Go.Proofs
theorem look_at {i v x : Int} : ∀ {W : List (Int × Int)} {k : Nat}, (∀ j p, j < k → W[j]? = some p → p.1 ≠ i) → W[k]? = some (i, x) → alook W i = some x ∧ aputL W i v = W.set k (i, v)
  | [], k, _, h => by simp at h
  | p :: W, 0, _, h => by
    obtain rfl : p = (i, x) := by simpa using h
    exact ⟨by simp [alook], by simp [aputL]⟩
  | p :: W, k + 1, hj, h => by
    have h0 : ¬p.1 = i := hj 0 p (by omega) rfl
    obtain ⟨a, b⟩ := look_at (v := v) (W := W) (k := k) (fun j q h1 h2 => hj (j + 1) q (by omega) h2) (by simpa using h)
    exact ⟨by simp [alook, h0, a], by simp [aputL, h0, b]⟩
theorem look_end {i v : Int} : ∀ {W : List (Int × Int)}, (∀ (j : Nat) p, W[j]? = some p → p.1 ≠ i) → alook W i = none ∧ aputL W i v = W ++ [(i, v)]
  | [], _ => ⟨rfl, rfl⟩
  | p :: W, hj => by
    have h0 : ¬p.1 = i := hj 0 p rfl
    obtain ⟨a, b⟩ := look_end (v := v) (W := W) (fun j q h2 => hj (j + 1) q h2)
    exact ⟨by simp [alook, h0, a], by simp [aputL, h0, b]⟩
theorem rdQ {h : AH} {a : Option Addr} {l : List (Int × Int)} (hr : Rd h a (l.flatMap encQ)) {k : Nat} {p : Int × Int} (hx : l[k]? = some p) : ∃ ad, a = some ad ∧ h.ldI .i64 ad.block (ad.off + k * 2 + 0) = some p.1 ∧ h.ldI .i64 ad.block (ad.off + k * 2 + 1) = some p.2 := by
  have hc : ∀ j, j < 2 → (l.flatMap encQ)[k * 2 + j]? = (encQ p)[j]? := fun j hj => flat_get_some encQ_len hj hx
  obtain ⟨ad, rfl, hrd⟩ := hr.some (by intro e; have := hc 0 (by decide); rw [e] at this; simp [encQ] at this)
  exact ⟨ad, rfl, by rw [Nat.add_assoc]; exact (hrd _).1 _ _ (hc 0 (by decide)), by rw [Nat.add_assoc]; exact (hrd _).1 _ _ (hc 1 (by decide))⟩
section
variable {u : Us} {h h' : AH} {r : Nat} {A : RA} {R W : List (Int × Int)} {sn : List (List (Int × Int))}
theorem rseen_loop (hr : RR u h r A R W sn) (i : Int) (hl : R.length < 1000000) : ∀ (n k : Nat), R.length - k = n → k ≤ R.length → (∀ j p, j < k → R[j]? = some p → p.1 ≠ i) → ref15_Sets_Seen_L1 (some ⟨r, 0 + 3, none⟩) i k h = some (.tuple #[.int .i64 (aval (alook R i)), .bool (aok (alook R i))], h) := by
  intro n
  induction n with
  | zero =>
    intro k hn hk hj
    refine ref15_Sets_Seen_L1_le _ ?_
    simp only [Option.bind_some, hr.c0, hr.rl]
    rw [dec_f (by omega), cond_f]
    refine ref15_Sets_Seen_j1_le _ ?_
    rw [(look_end (v := 0) fun j p hp => hj j p (by have := (List.getElem?_eq_some_iff.mp hp).1; omega) hp).1]
    rfl
  | succ n ih =>
    intro k hn hk hj
    refine ref15_Sets_Seen_L1_le _ ?_
    simp only [Option.bind_some, hr.c0, hr.rl]
    rw [dec_t (by omega), cond_t]
    refine ref15_Sets_Seen_j3_le _ ?_
    obtain ⟨p, hp⟩ : ∃ p, R[k]? = some p := ⟨_, List.getElem?_eq_getElem (by omega)⟩
    obtain ⟨ad, ha, q0, q1⟩ := rdQ hr.R.rd hp
    have hb : inB ((k : Nat) : Int) R.length = true := inB_t (by omega) (by omega)
    simp only [Option.bind_some, hr.c0, hr.rl, ha, hb, cond_t, Int.toNat_natCast, q0, q1]
    by_cases c : p.1 = i
    · rw [dec_t c, cond_t]
      obtain ⟨u, v⟩ := p
      simp only at c
      subst c
      rw [(look_at (v := 0) hj hp).1]
      rfl
    · rw [dec_f c, cond_f]
      refine ref15_Sets_Seen_j2_le _ ?_
      rw [show IntKind.wrap .i64 (((k : Nat) : Int) + 1) = ((k + 1 : Nat) : Int) by rw [wrap64 (by omega) (by omega)]; omega]
      exact ih (k + 1) (by omega) (by omega) fun j q h1 h2 => by
        by_cases e : j = k
        · subst e; rw [hp] at h2; obtain rfl := Option.some.inj h2; exact c
        · exact hj j q (by omega) h2
theorem rseen (hr : RR u h r A R W sn) (i : Int) (hl : R.length < 1000000) : C k_ref15_Sets_Seen [(.pointer (some ⟨r, 0 + 3, none⟩)), .int .i64 i] h = some (.tuple #[.int .i64 (aval (alook R i)), .bool (aok (alook R i))], h) :=
  ref15_Sets_Seen_le _ (rseen_loop hr i hl _ 0 rfl (by omega) fun j p h1 => by omega)
theorem rvalue_loop (hr : RR u h r A R W sn) (i : Int) (hl : W.length < 1000000) : ∀ (n k : Nat), W.length - k = n → k ≤ W.length → (∀ j p, j < k → W[j]? = some p → p.1 ≠ i) → ref15_Sets_Value_L1 (some ⟨r, 0 + 3, none⟩) i k h = some (.tuple #[.int .i64 (aval (alook W i)), .bool (aok (alook W i))], h) := by
  intro n
  induction n with
  | zero =>
    intro k hn hk hj
    refine ref15_Sets_Value_L1_le _ ?_
    simp only [Option.bind_some, hr.c1, hr.wl]
    rw [dec_f (by omega), cond_f]
    refine ref15_Sets_Value_j1_le _ ?_
    rw [(look_end (v := 0) fun j p hp => hj j p (by have := (List.getElem?_eq_some_iff.mp hp).1; omega) hp).1]
    rfl
  | succ n ih =>
    intro k hn hk hj
    refine ref15_Sets_Value_L1_le _ ?_
    simp only [Option.bind_some, hr.c1, hr.wl]
    rw [dec_t (by omega), cond_t]
    refine ref15_Sets_Value_j3_le _ ?_
    obtain ⟨p, hp⟩ : ∃ p, W[k]? = some p := ⟨_, List.getElem?_eq_getElem (by omega)⟩
    obtain ⟨ad, ha, q0, q1⟩ := rdQ hr.W.rd hp
    have hb : inB ((k : Nat) : Int) W.length = true := inB_t (by omega) (by omega)
    simp only [Option.bind_some, hr.c1, hr.wl, ha, hb, cond_t, Int.toNat_natCast, q0, q1]
    by_cases c : p.1 = i
    · rw [dec_t c, cond_t]
      obtain ⟨u, v⟩ := p
      simp only at c
      subst c
      rw [(look_at (v := 0) hj hp).1]
      rfl
    · rw [dec_f c, cond_f]
      refine ref15_Sets_Value_j2_le _ ?_
      rw [show IntKind.wrap .i64 (((k : Nat) : Int) + 1) = ((k + 1 : Nat) : Int) by rw [wrap64 (by omega) (by omega)]; omega]
      exact ih (k + 1) (by omega) (by omega) fun j q h1 h2 => by
        by_cases e : j = k
        · subst e; rw [hp] at h2; obtain rfl := Option.some.inj h2; exact c
        · exact hj j q (by omega) h2
theorem rvalue (hr : RR u h r A R W sn) (i : Int) (hl : W.length < 1000000) : C k_ref15_Sets_Value [(.pointer (some ⟨r, 0 + 3, none⟩)), .int .i64 i] h = some (.tuple #[.int .i64 (aval (alook W i)), .bool (aok (alook W i))], h) :=
  ref15_Sets_Value_le _ (rvalue_loop hr i hl _ 0 rfl (by omega) fun j p h1 => by omega)
/-! Read -/
theorem rread_loop (hr : RR u h r A R W sn) (i v : Int) (hi : ¬(i < 0 ∨ 1024 ≤ i)) (hv : ¬ v < 0) (hl : R.length < 1000000) : ∀ (n k : Nat), R.length - k = n → k ≤ R.length → (∀ j p, j < k → R[j]? = some p → p.1 ≠ i) →
    Ok (ref15_Sets_Read_L1 (some ⟨r, 0 + 3, none⟩) i v k h) fun x h' => x = .int .i64 (readM R i v).1 ∧ ∃ A', RR u h' r A' (readM R i v).2 W sn ∧ Mr r A A' h h' := by
  intro n
  induction n with
  | zero =>
    intro k hn hk hj
    refine Ok.le ?_ ref15_Sets_Read_L1_le
    simp only [Option.bind_some, hr.c0, hr.rl]
    rw [dec_f (by omega), cond_f]
    refine Ok.le ?_ ref15_Sets_Read_j2_le
    obtain ⟨l1, l2⟩ := look_end (v := v) (W := R) (i := i) fun j p hp => hj j p (by have := (List.getElem?_eq_some_iff.mp hp).1; omega) hp
    simp only [Option.bind_some, hr.c0, hr.rl, readM, if_neg hi, if_neg hv, l1, l2]
    by_cases c : R.length = 256
    · rw [dec_t (by omega), cond_t, if_pos c]
      exact Ok.some ⟨rfl, A, hr, .refl _ _ _⟩
    · rw [dec_f (by omega), cond_f, if_neg c]
      refine Ok.le ?_ ref15_Sets_Read_j1_le
      obtain ⟨a', h2, h3, e1, e2, e3, e4⟩ := hr.pushR (i, v) hl
      have e1' : appE 2 16 (.slice A.ra A.rn A.rc) (.slice (some ⟨h.n, 0, none⟩) 1 1) (h.push (.cells [.int .i64 i, .int .i64 v] false false 2)) = some (.slice a' (A.rn + 1) opn, h2) := e1
      simp only [Option.bind_some, hr.c0, e1', asS_s, e2]
      exact Ok.some ⟨rfl, _, e3, e4⟩
  | succ n ih =>
    intro k hn hk hj
    refine Ok.le ?_ ref15_Sets_Read_L1_le
    simp only [Option.bind_some, hr.c0, hr.rl]
    rw [dec_t (by omega), cond_t]
    refine Ok.le ?_ ref15_Sets_Read_j5_le
    obtain ⟨p, hp⟩ : ∃ p, R[k]? = some p := ⟨_, List.getElem?_eq_getElem (by omega)⟩
    obtain ⟨ad, ha, q0, q1⟩ := rdQ hr.R.rd hp
    have hb : inB ((k : Nat) : Int) R.length = true := inB_t (by omega) (by omega)
    simp only [Option.bind_some, hr.c0, hr.rl, ha, hb, cond_t, Int.toNat_natCast, q0, q1]
    by_cases c : p.1 = i
    · rw [dec_t c, cond_t]
      obtain ⟨u, w⟩ := p
      simp only at c
      subst c
      simp only [readM, if_neg hi, if_neg hv, (look_at (v := 0) hj hp).1]
      by_cases d : w = v
      · rw [dec_t d, Bool.not_true, cond_f, if_pos d]
        refine Ok.le ?_ ref15_Sets_Read_j4_le
        exact Ok.some ⟨rfl, A, hr, .refl _ _ _⟩
      · rw [dec_f d, Bool.not_false, cond_t, if_neg d]
        exact Ok.some ⟨rfl, A, hr, .refl _ _ _⟩
    · rw [dec_f c, cond_f]
      refine Ok.le ?_ ref15_Sets_Read_j3_le
      rw [show IntKind.wrap .i64 (((k : Nat) : Int) + 1) = ((k + 1 : Nat) : Int) by rw [wrap64 (by omega) (by omega)]; omega]
      exact ih (k + 1) (by omega) (by omega) fun j q h1 h2 => by
        by_cases e : j = k
        · subst e; rw [hp] at h2; obtain rfl := Option.some.inj h2; exact c
        · exact hj j q (by omega) h2
theorem rread (hr : RR u h r A R W sn) (i v : Int) (hl : R.length < 1000000) : Ok (C k_ref15_Sets_Read [(.pointer (some ⟨r, 0 + 3, none⟩)), .int .i64 i, .int .i64 v] h) fun x h' => x = .int .i64 (readM R i v).1 ∧ ∃ A', RR u h' r A' (readM R i v).2 W sn ∧ Mr r A A' h h' := by
  refine Ok.le ?_ ref15_Sets_Read_le
  unfold F_ref15_Sets_Read
  by_cases a : i < 0
  · rw [dec_t a, cond_t]
    simp only [readM, if_pos (show i < 0 ∨ 1024 ≤ i from .inl a)]
    exact Ok.some ⟨rfl, A, hr, .refl _ _ _⟩
  · rw [dec_f a, cond_f]
    by_cases b : i < 1024
    · rw [dec_t b, Bool.not_true, cond_f]
      have hi : ¬(i < 0 ∨ 1024 ≤ i) := by omega
      by_cases c : v < 0
      · rw [dec_t c, cond_t]
        simp only [readM, if_neg hi, if_pos c]
        exact Ok.some ⟨rfl, A, hr, .refl _ _ _⟩
      · rw [dec_f c, cond_f]
        refine Ok.le ?_ ref15_Sets_Read_j6_le
        exact rread_loop hr i v hi c hl _ 0 rfl (by omega) fun j p h1 => by omega
    · rw [dec_f b, Bool.not_false, cond_t]
      simp only [readM, if_pos (show i < 0 ∨ 1024 ≤ i by omega)]
      exact Ok.some ⟨rfl, A, hr, .refl _ _ _⟩
/-! Write -/
end
end Go.Lg.Tryz

namespace Go.Lg.Tryz
set_option linter.unusedVariables false
set_option linter.unusedSimpArgs false
open Go Go.Proofs
section
variable {u : Us} {h h' : AH} {r : Nat} {A : RA} {R W : List (Int × Int)} {sn : List (List (Int × Int))}
/-! the lists -/
end
end Go.Lg.Tryz

namespace Go.Lg.Tryz
set_option linter.unusedVariables false
set_option linter.unusedSimpArgs false
open Go Go.Proofs
/-- the document's marks tell what taking back leaves -/
structure Sn (σ : St) (sn : List (List (Int × Int))) : Prop where
  l : sn.length = σ.marks.length
  j : ∀ (k : Nat) w, sn[k]? = some w → ∃ n, Jv σ k n w
namespace Sn
variable {σ : St} {sn : List (List (Int × Int))}
theorem new : Sn {} [] := ⟨rfl, fun _ _ h => by simp at h⟩
theorem read (m : Sn σ sn) (i v : Int) : Sn (σ.read i v).2 sn := ⟨m.l, fun k w h => by obtain ⟨n, j⟩ := m.j k w h; exact ⟨n, j.read i v⟩⟩
theorem write_marks (i v : Int) : (σ.write i v).2.marks = σ.marks := by
  unfold St.write
  split
  · rfl
  · split <;> rfl
theorem write (m : Sn σ sn) (i v : Int) : Sn (σ.write i v).2 sn := ⟨by rw [write_marks]; exact m.l, fun k w h => by obtain ⟨n, j⟩ := m.j k w h; exact ⟨n, j.write i v⟩⟩
theorem mark (m : Sn σ sn) (o : Mo σ) : Sn σ.mark.2 (if sn.length = 8 then sn else sn ++ [σ.writes]) := by
  by_cases c : sn.length = 8
  · rw [if_pos c]
    have : σ.mark.2 = σ := by unfold St.mark; rw [if_pos (by rw [← m.l]; exact c)]
    rw [this]; exact m
  · rw [if_neg c]
    have c' : ¬σ.marks.length = 8 := by rw [← m.l]; exact c
    refine ⟨?_, fun k w h => ?_⟩
    · unfold St.mark; rw [if_neg c']; simp [m.l]
    · by_cases hk : k < sn.length
      · rw [List.getElem?_append_left hk] at h
        obtain ⟨n, j⟩ := m.j k w h
        exact ⟨n, j.mark⟩
      · rw [List.getElem?_append_right (by omega)] at h
        have hk0 : k - sn.length = 0 := by
          by_cases e : k - sn.length = 0
          · exact e
          · rw [List.getElem?_eq_none (by simp; omega)] at h; simp at h
        rw [hk0] at h
        obtain rfl : σ.writes = w := by simpa using h
        have hk' : k = σ.marks.length := by have := m.l; omega
        rw [hk']
        exact ⟨_, Jv.start o c'⟩
theorem keep (m : Sn σ sn) : Sn σ.keep.2 (sn.take (sn.length - 1)) := by
  have hl := m.l
  by_cases c : σ.marks.length = 0
  · have : σ.keep.2 = σ := by unfold St.keep; rw [if_pos c]
    rw [this, List.take_of_length_le (by omega)]; exact m
  · refine ⟨?_, fun k w h => ?_⟩
    · unfold St.keep St.last; simp only [c, if_false, List.length_take]; omega
    · have hk : k < sn.length - 1 := by have := (List.getElem?_eq_some_iff.mp h).1; rw [List.length_take] at this; omega
      rw [List.getElem?_take_of_lt hk] at h
      obtain ⟨n, j⟩ := m.j k w h
      exact ⟨n, j.keep (by omega)⟩
theorem undo (m : Sn σ sn) (o : Mo σ) : Sn σ.undo.2 (sn.take (sn.length - 1)) ∧ σ.undo.2.writes = (sn[sn.length - 1]?).getD σ.writes ∧ σ.undo.2.reads = σ.reads := by
  have hl := m.l
  by_cases c : σ.marks.length = 0
  · have : σ.undo.2 = σ := by unfold St.undo; rw [if_pos c]
    rw [this, List.take_of_length_le (by omega), List.getElem?_eq_none (by omega)]; exact ⟨m, rfl, rfl⟩
  · refine ⟨⟨?_, fun k w h => ?_⟩, ?_, ?_⟩
    · unfold St.undo St.last; simp only [c, if_false, List.length_take]; omega
    · have hk : k < sn.length - 1 := by have := (List.getElem?_eq_some_iff.mp h).1; rw [List.length_take] at this; omega
      rw [List.getElem?_take_of_lt hk] at h
      obtain ⟨n, j⟩ := m.j k w h
      exact ⟨n, j.undo (by omega) o.s⟩
    · obtain ⟨w, hw⟩ : ∃ w, sn[sn.length - 1]? = some w := ⟨_, List.getElem?_eq_getElem (by omega)⟩
      obtain ⟨n, j⟩ := m.j _ w hw
      have ha := j.at_
      rw [hl] at ha
      rw [hw, Option.getD_some, ← j.bk]
      unfold St.undo St.last
      simp only [c, if_false, ha, Option.getD_some, Int.toNat_natCast]
    · unfold St.undo St.last; simp only [c, if_false]
end Sn
end Go.Lg.Tryz
