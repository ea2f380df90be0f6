/- NestFirst: of many bodies just the first one that succeeds leaves anything. -/
import Derived.Test.YtdkammcandclhaaPnest
import Derived.Test.YtdkammcandclhaaFlaw17
import Derived.Test.YtdkammcandclhaaPokS
import Derived.Test.YtdkammcandclhaaEv33
namespace Go.Lg.Try
set_option linter.unusedVariables false
set_option linter.unusedSimpArgs false
open Go Go.Proofs
namespace First
def Q : Value → AH → Prop := fun v _ => v = .bool true
theorem Rd.same {h h' : AH} {a : Option Addr} {cs : List Value} (hr : Rd h a cs) (hg : ∀ b, b < h.n → blk a b → h'.get b = h.get b) (hn : h.n ≤ h'.n) : Rd h' a cs := by
  rcases hr with rfl | ⟨ad, c, op, ro, e, rfl, h1, h2, h3⟩
  · exact .inl rfl
  · exact .inr ⟨ad, c, op, ro, e, rfl, by rw [hg _ h2 rfl]; exact h1, Nat.lt_of_lt_of_le h2 hn, h3⟩
def encB (b : Bool) : List Value := [.bool b]
theorem encB_len (b : Bool) : (encB b).length = 1 := rfl
/-- where the first true is -/
def fst : List Bool → Nat
  | [] => 0
  | true :: _ => 0
  | false :: l => fst l + 1
theorem fst_le : ∀ l : List Bool, fst l ≤ l.length
  | [] => Nat.le_refl _
  | true :: l => by simp [fst]
  | false :: l => by simp only [fst, List.length_cons]; have := fst_le l; omega
theorem fst_false : ∀ {l : List Bool} {k : Nat}, k < fst l → l[k]? = some false
  | [], k, h => by simp [fst] at h
  | true :: l, k, h => by simp [fst] at h
  | false :: l, 0, h => rfl
  | false :: l, k + 1, h => by
    simp only [fst] at h
    simpa using fst_false (l := l) (k := k) (by omega)
theorem fst_true : ∀ {l : List Bool}, fst l < l.length → l[fst l]? = some true
  | [], h => by simp [fst] at h
  | true :: l, h => rfl
  | false :: l, h => by
    simp only [fst, List.length_cons] at h ⊢
    simpa using fst_true (l := l) (by omega)
/-- what may be read, is nobody's, and is not the counter -/
structure KP (h : AH) (s : Nat) (A : SA) (cb : Nat) (a : Option Addr) (cs : List Value) : Prop where
  r : Rd h a cs
  o : ∀ b, blk a b → ¬ own s A b ∧ b < h.n ∧ b ≠ cb
theorem KP.fp {h h' : AH} {s : Nat} {A A' : SA} {cb : Nat} {a : Option Addr} {cs : List Value} (k : KP h s A cb a cs) (f : Fp (fun b => b = cb) s A A' h h') : KP h' s A' cb a cs :=
  ⟨Rd.same k.r (fun b h1 h2 => f.g b h1 (k.o b h2).1 (k.o b h2).2.2) f.n, fun b hb => ⟨fun ho => (f.o b ho).elim (k.o b hb).1 fun hl => by have := (k.o b hb).2.1; omega, Nat.lt_of_lt_of_le (k.o b hb).2.1 f.n, (k.o b hb).2.2⟩⟩
theorem KP.one {h : AH} {s : Nat} {A : SA} {cb b : Nat} {v : Value} (k : KP h s A cb (some ⟨b, 0, none⟩) [v]) : ∃ c op ro e, h.get b = some (.cells (v :: c) op ro e) := by
  rcases k.r with e | ⟨ad, c, op, ro, e, ha, h1, h2, h3⟩
  · simp at e
  · obtain rfl := Option.some.inj ha
    have := h3 0 v rfl
    cases c with
    | nil => simp at this
    | cons x c =>
      have : x = v := by simpa using this
      subst this
      exact ⟨c, op, ro, e, h1⟩
def bodyV (cb tb : Nat) (p : Nat × Nat) : Value := fnV (some (k_law17_NestFirst_1, [], [ptr cb, ptr tb, ptr p.1, ptr p.2]))
def encK (cb tb : Nat) (p : Nat × Nat) : List Value := [bodyV cb tb p]
theorem encK_len (cb tb : Nat) (p : Nat × Nat) : (encK cb tb p).length = 1 := rfl
structure FI (h : AH) (t : Nat) (X : Txc) (A : SA) (σ : St) (q : Nat) (cs : List Cel) (clk : Int) (cb tb : Nat) (a : Option Addr) (bs : List (Nat × Nat)) (l : List Bool) (n : Nat) : Prop where
  w : WT h t X A σ q cs clk
  c : h.get cb = some (.cells [.int .i64 (n : Nat)] false false 1)
  cn : cb < h.n
  co : ¬ own X.s A cb ∧ cb ≠ t ∧ cb ≠ X.p ∧ cb ≠ q
  tk : KP h X.s A cb (some ⟨tb, 0, none⟩) [ptr t]
  b : KP h X.s A cb a (bs.flatMap (encK cb tb))
  x : ∀ (j : Nat) p v, bs[j]? = some p → l[j]? = some v → KP h X.s A cb (some ⟨p.1, 0, none⟩) [.int .i64 (j : Nat)] ∧ KP h X.s A cb (some ⟨p.2, 0, none⟩) [.bool v]
section
variable {h h' : AH} {t : Nat} {X : Txc} {A A' : SA} {σ σ' : St} {q : Nat} {cs : List Cel} {clk : Int} {cb tb : Nat} {a : Option Addr} {bs : List (Nat × Nat)} {l : List Bool} {n : Nat}
/-- one body -/
theorem body_ok (f : FI h t X A σ q cs clk cb tb a bs l n) (hst : X.st = 1) (hp : σ.past.length < 1000000) (hcs : cs.length = 8) (hn : n < 1000000) {j : Nat} (hj8 : j < 8) {p : Nat × Nat} {v : Bool} (hp1 : bs[j]? = some p) (hv : l[j]? = some v) :
    Ok (C k_law17_NestFirst_1 [ptr cb, ptr tb, ptr p.1, ptr p.2] h) fun x h' => x = .int .i64 (if v then 0 else 77) ∧ ∃ A', FI h' t X A' (σ.write j 1).2 q cs clk cb tb a bs l (n + 1) ∧ Fp (fun b => b = cb) X.s A A' h h' := by
  refine Ok.le ?_ law17_NestFirst_1_le
  unfold F_law17_NestFirst_1
  obtain ⟨h9, s9, g9, n9, o9⟩ := get_set1 (b' := 0) f.c (.int .i64 ((n + 1 : Nat) : Int))
  have hw : IntKind.wrap .i64 (((n : Nat) : Int) + 1) = ((n + 1 : Nat) : Int) := by rw [wrap64 (by omega) (by omega)]; omega
  have f9 : Fp (fun b => b = cb) X.s A A h h9 := ⟨by omega, fun b _ _ hb => o9 b hb, fun b hb => .inl hb⟩
  have w9 := f.w.off (h' := h9) (fun b _ hb => o9 b fun e => by
    subst e
    rcases hb with hb | hb | hb | hb
    · exact f.co.2.1 hb
    · exact f.co.2.2.1 hb
    · exact f.co.2.2.2 hb
    · exact f.co.1 hb) (by omega)
  have t9 := f.tk.fp f9
  obtain ⟨x9, y9⟩ := f.x j p v hp1 hv
  have x9 := x9.fp f9
  have y9 := y9.fp f9
  obtain ⟨_, _, _, _, gt⟩ := t9.one
  obtain ⟨_, _, _, _, gx⟩ := x9.one
  simp only [Option.bind_some, AH.ldI_of (k := .i64) (o := 0) f.c rfl, hw, s9, AH.ldP_of (o := 0) gt rfl, AH.ldI_of (k := .i64) (o := 0) gx rfl]
  refine Ok.bind (tx_write w9 hst hp (i := (j : Nat)) (by omega) (by omega) 1) ?_
  rintro _ h2 ⟨rfl, A2, w2, m2⟩
  have f2 : Fp (fun b => b = cb) X.s A A2 h h2 := f9.trans (m2.fp _)
  obtain ⟨_, _, _, _, gy⟩ := (y9.fp (m2.fp _)).one
  simp only [asI_i64, Option.bind_some, AH.ldB_of (o := 0) gy rfl]
  have c2 : h2.get cb = some (.cells [.int .i64 ((n + 1 : Nat) : Int)] false false 1) := by rw [m2.g cb (by rw [n9]; exact f.cn) f.co.1]; exact g9
  have F2 : FI h2 t X A2 (σ.write j 1).2 q cs clk cb tb a bs l (n + 1) := ⟨w2, c2, by have := f.cn; have := f2.n; omega, ⟨fun ho => (f2.o cb ho).elim f.co.1 fun hl => by have := f.cn; omega, f.co.2⟩, f.tk.fp f2, f.b.fp f2, fun j' p' v' h1 h2' => ⟨(f.x j' p' v' h1 h2').1.fp f2, (f.x j' p' v' h1 h2').2.fp f2⟩⟩
  cases v with
  | true => rw [cond_t]; exact Ok.some ⟨rfl, A2, F2, f2⟩
  | false =>
    rw [cond_f]
    refine Ok.le ?_ law17_NestFirst_1_j1_le
    exact Ok.some ⟨rfl, A2, F2, f2⟩
/-- a scope around a body -/
theorem scope1 (f : FI h t X A {} q cs clk cb tb a bs l n) (hst : X.st = 1) (hcs : cs.length = 8) (hn : n < 1000000) {j : Nat} (hj8 : j < 8) {p : Nat × Nat} {v : Bool} (hp1 : bs[j]? = some p) (hv : l[j]? = some v) :
    Ok (C k_nest_Scope_int [ptr t, bodyV cb tb p] h) fun x h' => x = .int .i64 (if v then 0 else 77) ∧ ∃ A', FI h' t X A' (if v then { writes := [((j : Nat), 1)] } else {}) q cs clk cb tb a bs l (n + 1) := by
  have em : St.mark {} = (0, { marks := [0] }) := rfl
  have ew : (St.write { marks := [0] } (j : Nat) 1).2 = { writes := [((j : Nat), 1)], past := [⟨(j : Nat), 0, true⟩], marks := [0] } := by
    unfold St.write
    rw [if_neg (by omega), if_neg (by simp)]
    rfl
  have hb : hasBody Try.prog k_law17_NestFirst_1 = true := by kernel_rfl
  refine Ok.mono (scope_ok f.w hst (by decide) hb (fun b => b = cb) (fun b e => by rw [e]; exact f.cn) (Bp := fun h1 e h2 A2 σ2 => e = (if v then 0 else 77) ∧ σ2 = { writes := [((j : Nat), 1)], past := [⟨(j : Nat), 0, true⟩], marks := [0] } ∧ FI h2 t X A2 σ2 q cs clk cb tb a bs l (n + 1)) ?_) ?_
  · intro h1 A1 w1 m1
    rw [em] at w1
    have fm := m1.fp (fun b => b = cb)
    have f1 : FI h1 t X A1 { marks := [0] } q cs clk cb tb a bs l n := ⟨w1, by rw [m1.g cb f.cn f.co.1]; exact f.c, Nat.lt_of_lt_of_le f.cn m1.n, ⟨fun ho => (m1.o cb ho).elim f.co.1 fun hl => by have := f.cn; omega, f.co.2⟩, f.tk.fp fm, f.b.fp fm, fun j' p' v' h1 h2' => ⟨(f.x j' p' v' h1 h2').1.fp fm, (f.x j' p' v' h1 h2').2.fp fm⟩⟩
    refine Ok.mono (body_ok f1 hst (by decide) hcs hn hj8 hp1 hv) ?_
    rintro x h2 ⟨rfl, A2, f2, fp2⟩
    rw [ew] at f2
    exact ⟨_, A2, _, rfl, f2.w, rfl, by simp, by simp, fp2, rfl, rfl, f2⟩
  · rintro x h' ⟨e, h1, h2, A2, σ2, A', rfl, ⟨rfl, rfl, f2⟩, w', n', g', fp', o'⟩
    refine ⟨rfl, A', ?_⟩
    have ec : closeSt (if v = true then 0 else 77) { writes := [((j : Nat), 1)], past := [⟨(j : Nat), 0, true⟩], marks := [0] } = if v then { writes := [((j : Nat), 1)] } else {} := by
      cases v with
      | true => rfl
      | false =>
        unfold closeSt St.undo St.last
        simp [backs, back, adelL]
    rw [ec] at w'
    have kp : ∀ {a' : Option Addr} {vs : List Value}, KP h X.s A cb a' vs → KP h2 X.s A2 cb a' vs → KP h' X.s A' cb a' vs := fun k0 k2 => ⟨Rd.same k2.r (fun b h3 h4 => g' b (.inl (k0.o b h4).2.1) h3 (k2.o b h4).1) n', fun b hb => ⟨fun ho => (o' b ho).elim (k2.o b hb).1 fun hl => by have := (k2.o b hb).2.1; omega, Nat.lt_of_lt_of_le (k2.o b hb).2.1 n', (k2.o b hb).2.2⟩⟩
    exact ⟨w', by rw [g' cb (.inl f.cn) f2.cn f2.co.1]; exact f2.c, Nat.lt_of_lt_of_le f2.cn n', ⟨fun ho => (o' cb ho).elim f2.co.1 fun hl => by have := f2.cn; omega, f2.co.2⟩, kp f.tk f2.tk, kp f.b f2.b, fun j' p' v' h3 h4 => ⟨kp (f.x j' p' v' h3 h4).1 (f2.x j' p' v' h3 h4).1, kp (f.x j' p' v' h3 h4).2 (f2.x j' p' v' h3 h4).2⟩⟩
theorem rdK {h : AH} {a : Option Addr} {l : List (Nat × Nat)} (hr : Rd h a (l.flatMap (encK cb tb))) {k : Nat} {p : Nat × Nat} (hx : l[k]? = some p) : ∃ ad, a = some ad ∧ h.ldG ad.block (ad.off + k * 1) = some (some (k_law17_NestFirst_1, [], [ptr cb, ptr tb, ptr p.1, ptr p.2])) := by
  have hc : (l.flatMap (encK cb tb))[k * 1 + 0]? = some (bodyV cb tb p) := by rw [flat_get_some (encK_len cb tb) (by decide) hx]; rfl
  rcases hr with e | ⟨ad, c, op, ro, e, ha, h1, h2, h3⟩
  · rw [e] at hc; simp at hc
  · have := h3 _ _ hc
    refine ⟨ad, ha, ?_⟩
    simp only [AH.ldG, AH.ld_of h1]
    rw [Nat.add_zero] at this
    rw [this]
    rfl
/-- the first of them -/
theorem first_loop (hst : X.st = 1) (hcs : cs.length = 8) (hlen : bs.length = l.length) (hl8 : l.length ≤ 8) (c4 : Nat) : ∀ (m k : Nat) {h : AH} {A : SA} {e : Int}, l.length - k = m → k ≤ fst l → FI h t X A {} q cs clk cb tb a bs l k → e ≠ 0 →
    Ok (nest_First_int_L1 a l.length (some ⟨t, 0, none⟩) c4 e ((l.length : Nat) : Int) k h) fun x h' => ∃ (e' : Int) (A' : SA), x = .tuple #[.int .i64 (fst l : Nat), .int .i64 e'] ∧ (e' = 0 ↔ fst l < l.length) ∧ FI h' t X A' (if fst l < l.length then { writes := [((fst l : Nat), 1)] } else {}) q cs clk cb tb a bs l (if fst l < l.length then fst l + 1 else l.length) := by
  intro m
  induction m with
  | zero =>
    intro k h A e hm hk f he
    have hfl := fst_le l
    have hke : fst l = l.length := by omega
    have hk2 : k = l.length := by omega
    refine Ok.le ?_ nest_First_int_L1_le
    refine Ok.le ?_ nest_First_int_j4_le
    rw [dec_f (by omega), cond_f]
    refine Ok.le ?_ nest_First_int_j1_le
    refine Ok.some ⟨e, A, by rw [hke], ⟨fun h => absurd h he, fun h => by omega⟩, ?_⟩
    rw [if_neg (by omega), if_neg (by omega), ← hk2]; exact f
  | succ m ih =>
    intro k h A e hm hk f he
    have hkl : k < l.length := by omega
    obtain ⟨p, hp⟩ : ∃ p, bs[k]? = some p := ⟨_, List.getElem?_eq_getElem (by omega)⟩
    obtain ⟨v, hv⟩ : ∃ v, l[k]? = some v := ⟨_, List.getElem?_eq_getElem hkl⟩
    obtain ⟨ad, ha, g0⟩ := rdK f.b.r hp
    refine Ok.le ?_ nest_First_int_L1_le
    refine Ok.le ?_ nest_First_int_j4_le
    rw [dec_t (by omega), cond_t]
    refine Ok.le ?_ nest_First_int_j3_le
    have hb : inB ((k : Nat) : Int) l.length = true := inB_t (by omega) (by omega)
    rw [ha]
    simp only [Option.bind_some, hb, cond_t, Int.toNat_natCast, g0]
    rw [← ha]
    refine Ok.bind (scope1 f hst hcs (by omega) (by omega) hp hv) ?_
    rintro _ h2 ⟨rfl, A2, f2⟩
    simp only [asI_i64, Option.bind_some]
    cases v with
    | true =>
      have hkf : fst l = k := by
        rcases Nat.lt_or_ge k (fst l) with h3 | h3
        · rw [fst_false h3] at hv; simp at hv
        · omega
      rw [if_pos rfl] at f2 ⊢
      rw [dec_t rfl, cond_t]
      refine Ok.some ⟨0, A2, by rw [hkf], ⟨fun _ => by omega, fun _ => rfl⟩, ?_⟩
      rw [if_pos (by omega), if_pos (by omega), hkf]; exact f2
    | false =>
      have hkf : k < fst l := by
        rcases Nat.lt_or_ge k (fst l) with h3 | h3
        · exact h3
        · have : fst l = k := by omega
          have h4 := fst_true (l := l) (by omega)
          rw [this, hv] at h4; simp at h4
      rw [if_neg (by simp)] at f2 ⊢
      rw [dec_f (by decide), cond_f]
      simp only [tx_status f2.w, hst, Option.bind_some, asI_u8, decide_true, Bool.not_true, cond_f]
      refine Ok.le ?_ nest_First_int_j2_le
      rw [show IntKind.wrap .i64 (((k : Nat) : Int) + 1) = ((k + 1 : Nat) : Int) by rw [wrap64 (by omega) (by omega)]; omega]
      exact ih (k + 1) (by omega) (by omega) f2 (by decide)
/-- the law's end -/
theorem ending (hst : X.st = 1) (hcs : cs.length = 8) (hlen : bs.length = l.length) (hl8 : l.length ≤ 8) (a24 : Option Addr) (c26 c31 : Nat) (f : FI h t X A {} q cs clk cb tb a bs l 0) :
    Ok (law17_NestFirst_j2 (some ⟨tb, 0, none⟩) h a l.length c31 (fst l : Nat) l.length (some ⟨cb, 0, none⟩) a24 c26) Q := by
  have hfl := fst_le l
  refine Ok.le ?_ law17_NestFirst_j2_le
  obtain ⟨_, _, _, _, gt⟩ := f.tk.one
  simp only [Option.bind_some, AH.ldP_of (o := 0) gt rfl]
  have first : Ok (C k_nest_First_int [ptr t, .slice a l.length c31] h) fun x h' => ∃ (e' : Int) (A' : SA), x = .tuple #[.int .i64 (fst l : Nat), .int .i64 e'] ∧ (e' = 0 ↔ fst l < l.length) ∧ FI h' t X A' (if fst l < l.length then { writes := [((fst l : Nat), 1)] } else {}) q cs clk cb tb a bs l (if fst l < l.length then fst l + 1 else l.length) := by
    refine Ok.le ?_ nest_First_int_le
    unfold F_nest_First_int
    simp only [tx_status f.w, hst, Option.bind_some, asI_u8]
    rw [dec_f (by decide), cond_f]
    refine Ok.le ?_ nest_First_int_j5_le
    exact first_loop hst hcs hlen hl8 c31 _ 0 rfl (by omega) f (by decide)
  refine Ok.bind first ?_
  rintro _ h2 ⟨e, A2, rfl, he, f2⟩
  simp only [asTu_t, hdO_c, asI_i64, Option.bind_some, List.isEmpty_nil, cond_t, decide_true, Bool.not_true, cond_f]
  have hlt : (decide (((fst l : Nat) : Int) < ((l.length : Nat) : Int))) = decide (fst l < l.length) := by
    by_cases c : fst l < l.length
    · rw [dec_t c, dec_t (by omega)]
    · rw [dec_f c, dec_f (by omega)]
  have he2 : decide (e = 0) = decide (fst l < l.length) := by
    by_cases c : fst l < l.length
    · rw [dec_t c, dec_t (he.mpr c)]
    · rw [dec_f c, dec_f fun h => c (he.mp h)]
  have hbeq : (!(decide (e = 0) == decide (((fst l : Nat) : Int) < ((l.length : Nat) : Int)))) = false := by rw [hlt, he2]; simp
  have hw : IntKind.wrap .i64 (((fst l : Nat) : Int) + 1) = ((fst l + 1 : Nat) : Int) := by rw [wrap64 (by omega) (by omega)]; omega
  have hmin : cond (decide (((l.length : Nat) : Int) < ((fst l + 1 : Nat) : Int))) ((l.length : Nat) : Int) ((fst l + 1 : Nat) : Int) = (((if fst l < l.length then fst l + 1 else l.length : Nat)) : Int) := by
    by_cases c : fst l < l.length
    · rw [dec_f (by omega), cond_f, if_pos c]
    · rw [dec_t (by omega), cond_t, if_neg c]
  rw [hbeq, cond_f]
  simp only [AH.ldI_of (k := .i64) (o := 0) f2.c rfl, Option.bind_some, hw, hmin, decide_true, Bool.not_true, cond_f]
  refine Ok.le ?_ law17_NestFirst_j1_le
  obtain ⟨_, _, _, _, gt2⟩ := f2.tk.one
  simp only [Option.bind_some, AH.ldP_of (o := 0) gt2 rfl]
  have wk : Wk ((if fst l < l.length then ({ writes := [((fst l : Nat), 1)] } : St) else {}).writes.map Prod.fst) := by
    intro x hx
    split at hx
    · obtain rfl : x = ((fst l : Nat) : Int) := by simpa using hx
      have e1 : IntKind.min .i64 = -9223372036854775808 := by decide
      have e2 : IntKind.max .i64 = 9223372036854775807 := by decide
      simp only [Lit.wf, Bool.and_eq_true, decide_eq_true_eq, e1, e2]
      omega
    · simp at hx
  refine Ok.bind (tx_writes f2.w wk (by split <;> simp)) ?_
  rintro _ h3 ⟨a3, c3, rfl, F3⟩
  simp only [asS_s, Option.bind_some]
  by_cases c : fst l < l.length
  · have e0 := he.mpr c
    rw [if_pos c] at F3 ⊢
    have es : sortI (List.map Prod.fst [(((fst l : Nat) : Int), (1 : Int))]) = [((fst l : Nat) : Int)] := by
      have := sortI_len [((fst l : Nat) : Int)]
      have m := sortI_mem (l := [((fst l : Nat) : Int)]) (x := ((fst l : Nat) : Int))
      simp only [List.map_cons, List.map_nil]
      cases hq : sortI [((fst l : Nat) : Int)] with
      | nil => rw [hq] at this; simp at this
      | cons x xs =>
        rw [hq] at this m
        cases xs with
        | nil => have := m.mpr (by simp); simp only [List.mem_cons, List.not_mem_nil, or_false] at this; rw [this]
        | cons _ _ => simp at this
    have hr := F3.o.rd
    simp only [es] at hr
    rw [dec_t e0, cond_t]
    have hone : ((([(((fst l : Nat) : Int), (1 : Int))] : List (Int × Int)).length : Nat) : Int) = 1 := rfl
    simp only [List.length_cons, List.length_nil] at hone ⊢
    rw [dec_t (by decide), cond_t]
    rcases hr with e | ⟨ad, cc, op, ro, e, ha, g1, g2, g3⟩
    · simp [encI] at e
    · subst ha
      have g0 := g3 0 (.int .i64 (fst l : Nat)) rfl
      have hin : inB (0 : Int) (0 + 1) = true := rfl
      rw [Nat.add_zero] at g0
      have hld : h3.ldI .i64 ad.block (ad.off + 0 * 1) = some ((fst l : Nat) : Int) := by rw [Nat.zero_mul, Nat.add_zero]; exact AH.ldI_of g1 g0
      simp only [Option.bind_some, hin, cond_t, hld, decide_true, C_closed (f := k_law17_awake) rfl h3, asB_b]
      exact Ok.some rfl
  · have e0 : ¬ e = 0 := fun h => c (he.mp h)
    rw [if_neg c] at F3 ⊢
    rw [dec_f e0, cond_f, Bool.not_false, cond_t]
    simp only [List.length_nil]
    rw [dec_t (by decide), cond_t]
    simp only [C_closed (f := k_law17_awake) rfl h3, Option.bind_some, asB_b]
    exact Ok.some rfl
/-- the bodies, as they are made -/
structure BI (h0 h : AH) (cb tb : Nat) (a : Option Addr) (n c : Nat) (bs : List (Nat × Nat)) (l : List Bool) (k : Nat) : Prop where
  f : Fr [] h0 h
  o : Ow h 1 a n c (bs.flatMap (encK cb tb))
  e : n = k
  fr : ∀ b, blk a b → h0.n ≤ b
  len : bs.length = k
  x : ∀ (j : Nat) p v, bs[j]? = some p → l[j]? = some v → (h.get p.1 = some (.cells [.int .i64 (j : Nat)] false false 1) ∧ h0.n ≤ p.1 ∧ p.1 < h.n ∧ ¬ blk a p.1) ∧ (h.get p.2 = some (.cells [.bool v] false false 1) ∧ h0.n ≤ p.2 ∧ p.2 < h.n ∧ ¬ blk a p.2)
theorem rdB {h : AH} {a : Option Addr} {l : List Bool} (hr : Rd h a (l.flatMap encB)) {k : Nat} {v : Bool} (hx : l[k]? = some v) : ∃ ad, a = some ad ∧ h.ldB ad.block (ad.off + k * 1) = some v := by
  have hc : (l.flatMap encB)[k * 1 + 0]? = some (.bool v) := by rw [flat_get_some encB_len (by decide) hx]; rfl
  rcases hr with e | ⟨ad, c, op, ro, e, ha, h1, h2, h3⟩
  · rw [e] at hc; simp at hc
  · have := h3 _ _ hc
    rw [Nat.add_zero] at this
    exact ⟨ad, ha, AH.ldB_of h1 this⟩
theorem ow_lt {h : AH} {sz : Nat} {a : Option Addr} {n c : Nat} {cs : List Value} (ho : Ow h sz a n c cs) : ∀ b, blk a b → b < h.n := by
  cases ho with
  | nil => intro b hb; cases hb
  | mk hb hl hn => intro b hb; obtain rfl : _ = b := hb; exact hn
theorem ow_same {h h' : AH} {sz : Nat} {a : Option Addr} {n c : Nat} {cs : List Value} (ho : Ow h sz a n c cs) (hg : ∀ b, b < h.n → blk a b → h'.get b = h.get b) (hn : h.n ≤ h'.n) : Ow h' sz a n c cs := by
  cases ho with
  | nil => exact .nil
  | mk hb hl hlt => exact .mk (by rw [hg _ hlt rfl]; exact hb) hl (Nat.lt_of_lt_of_le hlt hn)
def wantK (l : List Bool) (k : Nat) : Nat := if fst l < k then fst l else l.length
theorem build {h0 : AH} {a33 : Option Addr} {c26 c35 : Nat} (hl8 : l.length ≤ 8) (hr : Rd h0 a33 (l.flatMap encB))
    (K : ∀ h bs a c, BI h0 h cb tb a l.length c bs l l.length → Ok (law17_NestFirst_j2 (some ⟨tb, 0, none⟩) h a l.length c (fst l : Nat) l.length (some ⟨cb, 0, none⟩) a33 c26) Q) :
    ∀ (m k : Nat) (h : AH) (bs : List (Nat × Nat)) (a : Option Addr) (n c : Nat), l.length - k = m → k ≤ l.length → BI h0 h cb tb a n c bs l k →
    Ok (law17_NestFirst_L1 a33 l.length c26 (some ⟨tb, 0, none⟩) (wantK l k : Nat) a n c (some ⟨cb, 0, none⟩) a33 l.length c35 ((l.length : Nat) : Int) k h) Q := by
  have hfl := fst_le l
  intro m
  induction m with
  | zero =>
    intro k h bs a n c hm hk bi
    have hk2 : k = l.length := by omega
    subst hk2
    refine Ok.le ?_ law17_NestFirst_L1_le
    refine Ok.le ?_ law17_NestFirst_j6_le
    rw [dec_f (by omega), cond_f]
    have e := bi.e
    subst e
    have hw : wantK l l.length = fst l := by unfold wantK; split <;> omega
    rw [hw]
    exact K h bs a c bi
  | succ m ih =>
    intro k h bs a n c hm hk bi
    have hkl : k < l.length := by omega
    obtain ⟨v, hv⟩ : ∃ v, l[k]? = some v := ⟨_, List.getElem?_eq_getElem hkl⟩
    refine Ok.le ?_ law17_NestFirst_L1_le
    refine Ok.le ?_ law17_NestFirst_j6_le
    rw [dec_t (by omega), cond_t]
    refine Ok.le ?_ law17_NestFirst_j5_le
    obtain ⟨ad, ha, g0⟩ := rdB (hr.fr bi.f (by simp)) hv
    have hb : inB ((k : Nat) : Int) l.length = true := inB_t (by omega) (by omega)
    rw [ha]
    simp only [Option.bind_some, hb, cond_t, Int.toNat_natCast, g0]
    rw [← ha]
    -- the two boxes
    have f42 : Fr [] h (h.push (.cells [.int .i64 0] false false 1)) := Fr.push _ _ _
    generalize hh42 : h.push (.cells [.int .i64 0] false false 1) = h42 at f42 ⊢
    have n42 : h42.n = h.n + 1 := by rw [← hh42]; rfl
    have g42 : h42.get h.n = some (.cells [.int .i64 0] false false 1) := by rw [← hh42]; exact AH.get_push_eq _ _
    have f43 : Fr [] h42 (h42.push (.cells [.bool false] false false 1)) := Fr.push _ _ _
    generalize hh43 : h42.push (.cells [.bool false] false false 1) = h43 at f43 ⊢
    have n43 : h43.n = h.n + 2 := by rw [← hh43, AH.n_push, n42]
    have g43 : h43.get h42.n = some (.cells [.bool false] false false 1) := by rw [← hh43]; exact AH.get_push_eq _ _
    have i43 : h43.get h.n = some (.cells [.int .i64 0] false false 1) := by rw [f43.g h.n (by omega) (by simp)]; exact g42
    obtain ⟨h44, s44, i44, n44, o44⟩ := get_set1 (b' := 0) i43 (.int .i64 ((k : Nat) : Int))
    have g44 : h44.get h42.n = some (.cells [.bool false] false false 1) := by rw [o44 h42.n (by omega)]; exact g43
    obtain ⟨h45, s45, g45, n45, o45⟩ := get_set1 (b' := 0) g44 (.bool v)
    have i45 : h45.get h.n = some (.cells [.int .i64 ((k : Nat) : Int)] false false 1) := by rw [o45 h.n (by omega)]; exact i44
    have fa : Fr [] h h45 := ⟨by omega, fun b hb2 _ => by rw [o45 b (by omega), o44 b (by omega), f43.g b (by omega) (by simp), f42.g b hb2 (by simp)]⟩
    simp only [s44, s45, Option.bind_some, AH.ldB_of (o := 0) g45 rfl, AH.ldI_of (k := .i64) (o := 0) i45 rfl]
    have j4 : ∀ x48 : Int, x48 = (wantK l (k + 1) : Nat) → Ok (law17_NestFirst_j4 h45 (some ⟨cb, 0, none⟩) (some ⟨tb, 0, none⟩) a n c a33 l.length c26 a33 l.length c35 ((l.length : Nat) : Int) k x48 (some ⟨h.n, 0, none⟩) (some ⟨h42.n, 0, none⟩)) Q := by
      rintro _ rfl
      refine Ok.le ?_ law17_NestFirst_j4_le
      have fp : Fr [] h45 (h45.push (.cells [bodyV cb tb (h.n, h42.n)] false false 1)) := Fr.push _ _ _
      have O1 : Ow (h45.push (.cells [bodyV cb tb (h.n, h42.n)] false false 1)) 1 a n c (bs.flatMap (encK cb tb)) := (bi.o.fr fa (by simp)).fr fp (by simp)
      have hlt := ow_lt bi.o
      obtain ⟨h52, q1, q2, q3, q4⟩ := O1.app (by_ := 8) (newCells_one (c := 1) (AH.get_push_eq h45 (.cells [bodyV cb tb (h.n, h42.n)] false false 1)) rfl) rfl (by decide) (by decide) (by have := bi.e; omega) (by have := bi.e; omega)
      have q1' : appE 1 8 (.slice a n c) (.slice (some ⟨h45.n, 0, none⟩) 1 1) (h45.push (.cells [fnV (some (k_law17_NestFirst_1, [], [.pointer (some ⟨cb, 0, none⟩), .pointer (some ⟨tb, 0, none⟩), .pointer (some ⟨h.n, 0, none⟩), .pointer (some ⟨h42.n, 0, none⟩)]))] false false 1)) = some (.slice (some ⟨h45.n + 1, 0, none⟩) (n + 1) opn, h52) := q1
      simp only [q1', Option.bind_some, asS_s]
      refine Ok.le ?_ law17_NestFirst_j3_le
      rw [show IntKind.wrap .i64 (((k : Nat) : Int) + 1) = ((k + 1 : Nat) : Int) by rw [wrap64 (by omega) (by omega)]; omega]
      have n52 : h52.n = h45.n + 2 := by rw [q3, AH.n_push]
      have g52 : ∀ b, b < h45.n → ¬ blk a b → h52.get b = h45.get b := fun b hb1 hb2 => by rw [q4 b (by rw [AH.n_push]; omega) hb2, AH.get_push_ne _ (by omega)]
      have hn0 := bi.f.n
      refine ih (k + 1) h52 (bs ++ [(h.n, h42.n)]) _ (n + 1) opn (by omega) (by omega) ⟨⟨by omega, fun b hb1 _ => ?_⟩, ?_, by have := bi.e; omega, fun b hb1 => ?_, by rw [List.length_append, List.length_singleton, bi.len], fun j p w hp hw => ?_⟩
      · have : ¬ blk a b := fun hb2 => by have := bi.fr b hb2; omega
        rw [g52 b (by omega) this, fa.g b (by omega) (by simp)]
        exact bi.f.g b hb1 (by simp)
      · have : (bs ++ [(h.n, h42.n)]).flatMap (encK cb tb) = bs.flatMap (encK cb tb) ++ [bodyV cb tb (h.n, h42.n)] := by simp [encK]
        rw [this]; exact q2
      · obtain rfl : h45.n + 1 = b := hb1
        omega
      · by_cases c1 : j < bs.length
        · rw [List.getElem?_append_left c1] at hp
          obtain ⟨⟨y1, y2, y3, y4⟩, ⟨z1, z2, z3, z4⟩⟩ := bi.x j p w hp hw
          exact ⟨⟨by rw [g52 _ (by omega) y4, fa.g _ y3 (by simp)]; exact y1, y2, by omega, fun hb1 => by have : h45.n + 1 = p.1 := hb1; omega⟩, ⟨by rw [g52 _ (by omega) z4, fa.g _ z3 (by simp)]; exact z1, z2, by omega, fun hb1 => by have : h45.n + 1 = p.2 := hb1; omega⟩⟩
        · rw [List.getElem?_append_right (by omega)] at hp
          have hj0 : j - bs.length = 0 := by
            by_cases e : j - bs.length = 0
            · exact e
            · rw [List.getElem?_eq_none (by simp; omega)] at hp; simp at hp
          rw [hj0] at hp
          obtain rfl : (h.n, h42.n) = p := by simpa using hp
          have hjk : j = k := by have := bi.len; omega
          subst hjk
          rw [hv] at hw
          obtain rfl := Option.some.inj hw
          have na : ∀ b, h.n ≤ b → ¬ blk a b := fun b hb1 hb2 => by have := hlt b hb2; omega
          refine ⟨⟨?_, by show h0.n ≤ h.n; omega, by show h.n < h52.n; omega, fun hb1 => by have : h45.n + 1 = h.n := hb1; omega⟩, ⟨?_, by show h0.n ≤ h42.n; omega, by show h42.n < h52.n; omega, fun hb1 => by have : h45.n + 1 = h42.n := hb1; omega⟩⟩
          · rw [g52 h.n (by omega) (na _ (Nat.le_refl _))]; exact i45
          · show h52.get h42.n = _
            rw [g52 h42.n (by omega) (na _ (by omega))]; exact g45
    cases v with
    | false =>
      rw [cond_f]
      refine j4 _ ?_
      have hne : fst l ≠ k := fun e => by
        have := fst_true (l := l) (by omega)
        rw [e, hv] at this; simp at this
      unfold wantK
      by_cases c1 : fst l < k
      · rw [if_pos c1, if_pos (by omega)]
      · rw [if_neg c1, if_neg (by omega)]
    | true =>
      rw [cond_t]
      have hge : fst l ≤ k := by
        rcases Nat.lt_or_ge k (fst l) with h3 | h3
        · rw [fst_false h3] at hv; simp at hv
        · exact h3
      by_cases c1 : fst l < k
      · have e1 : wantK l k = fst l := by unfold wantK; rw [if_pos c1]
        rw [e1, dec_f (show ¬((fst l : Nat) : Int) = ((l.length : Nat) : Int) by omega), cond_f]
        refine j4 _ ?_
        unfold wantK; rw [if_pos (by omega)]
      · have e1 : wantK l k = l.length := by unfold wantK; rw [if_neg c1]
        rw [e1, dec_t rfl, cond_t]
        refine j4 _ ?_
        unfold wantK; rw [if_pos (by omega)]
        congr 1; omega
theorem cut8 {h : AH} {a : Option Addr} {n c : Nat} {ls : List Bool} (s1 : SlIn h encB (fun _ => True) a n c ls) : ∃ a' c', slcE 1 a n c none (some (.int .i64 (cond (decide (8 < ((n : Nat) : Int))) 8 ((n : Nat) : Int)))) none h = some (.slice a' (ls.take 8).length c', h) ∧ Rd h a' ((ls.take 8).flatMap encB) ∧ (∀ b, blk a' b → b < h.n) := by
  have hn := s1.len
  have hlen : (ls.take 8).length = min 8 n := by rw [List.length_take, hn]
  have hv : cond (decide (8 < ((n : Nat) : Int))) 8 ((n : Nat) : Int) = (((ls.take 8).length : Nat) : Int) := by
    by_cases c1 : (8 : Int) < (n : Int)
    · rw [dec_t c1, cond_t, hlen]; omega
    · rw [dec_f c1, cond_f, hlen]; omega
  rw [hv]
  cases a with
  | none =>
    obtain ⟨rfl, rfl⟩ := s1.nil rfl
    have hz : (ls.take 8).length = 0 := by omega
    rw [hz]
    have hz' : ls.take 8 = [] := List.eq_nil_of_length_eq_zero hz
    refine ⟨none, 0, ?_, .inl (by rw [hz']; rfl), fun b hb => hb.elim⟩
    simp only [slcE, Nat.beq_refl, Bool.and_self, cond_t]
    rw [bnd (k := 0) rfl (Nat.le_refl _), bnd0]
  | some ad =>
    refine ⟨some ⟨ad.block, ad.off + cond (Nat.beq 0 c) 0 (0 * 1), none⟩, c - 0, ?_, ?_, fun b hb => s1.lt b hb⟩
    · have hc := s1.cap
      have hle := s1.le
      simp only [slcE, blt_small (show c < 4611686018427387904 by omega), cond_t]
      rw [bnd rfl (by rw [hlen]; omega), bnd0, Nat.sub_zero]
    · have ho : ad.off + cond (Nat.beq 0 c) 0 (0 * 1) = ad.off := by cases Nat.beq 0 c <;> rfl
      rw [ho]
      have hsplit : ls.flatMap encB = (ls.take 8).flatMap encB ++ (ls.drop 8).flatMap encB := by rw [← List.flatMap_append, List.take_append_drop]
      rcases s1.rd with e | ⟨ad', cc, op, ro, e, had, h1, h2, h3⟩
      · rw [hsplit] at e
        exact .inl (List.append_eq_nil_iff.mp e).1
      · obtain rfl := Option.some.inj had
        refine .inr ⟨_, cc, op, ro, e, rfl, h1, h2, fun k v hk => ?_⟩
        refine h3 k v ?_
        rw [hsplit, List.getElem?_append_left (List.getElem?_eq_some_iff.mp hk).1]
        exact hk
end
theorem main (h : AH) {a1 : Option Addr} {l2 c3 : Nat} {oks : List Bool} (hs : SlIn h encB (fun _ => True) a1 l2 c3 oks) : Ok (C k_law17_NestFirst [.slice a1 l2 c3] h) Q := by
  refine Ok.le ?_ law17_NestFirst_le
  unfold F_law17_NestFirst
  rcases new_ok h 8 with ⟨hbad, _⟩ | ⟨_, _, h1, e1, M1, f1, n1⟩
  · omega
  simp only [e1, Option.bind_some, asTu_t, hdO_c, asP_p, asI_i64, List.isEmpty_nil, cond_t, decide_true, Bool.not_true, cond_f]
  refine Ok.le ?_ law17_NestFirst_j7_le
  obtain ⟨h2, e2, w2, n2, f2⟩ := tx_begin M1 (o := 1) (by decide)
  simp only [e2, Option.bind_some, asTu_t, hdO_c, asP_p, asI_i64, List.isEmpty_nil, cond_t]
  obtain ⟨h19, s19, g19, f19, n19⟩ := push_st h2 [.pointer none] [ptr (h1.n + 3)] 1 rfl
  simp only [s19, Option.bind_some]
  have hs19 := ((hs.fr f1).fr f2).fr f19
  obtain ⟨a', c', ec, rc, lc⟩ := cut8 hs19
  simp only [ec, Option.bind_some, asS_s]
  obtain ⟨h23, s23, g23, f23, n23⟩ := push_st h19 [.int .i64 0] [.int .i64 0] 1 rfl
  simp only [s23, Option.bind_some]
  generalize hl : oks.take 8 = l at ec rc ⊢
  have hl8 : l.length ≤ 8 := by rw [← hl, List.length_take]; omega
  have w23 := (w2.fr f19).fr f23
  have g23t : h23.get h2.n = some (.cells [ptr (h1.n + 3)] false false 1) := by rw [f23.g h2.n (by omega) (by simp)]; exact g19
  have own1 : ∀ b, own (h1.n + 2) ⟨h1.n, h1.n + 1, none, 0, 0, none, 0, 0⟩ b → h1.n ≤ b ∧ b < h1.n + 3 := fun b hb => by
    rcases hb with hb | hb | hb | hb | hb
    · omega
    · simp only at hb; omega
    · simp only at hb; omega
    · exact hb.elim
    · exact hb.elim
  have hw0 : (wantK l 0 : Nat) = l.length := by unfold wantK; rw [if_neg (by omega)]
  have key := build (cb := h19.n) (tb := h2.n) (h0 := h23) (c26 := c') (c35 := c') (l := l) hl8 (rc.fr f23 (by simp)) ?_ l.length 0 h23 [] none 0 0 rfl (by omega) ⟨.refl _ _, .nil, rfl, fun b hb => hb.elim, rfl, fun j p v h _ => by simp at h⟩
  · rw [hw0] at key
    exact key
  · intro h4 bs a c bi
    have w4 := w23.fr bi.f
    refine ending (X := ⟨h.n + 1, 1, 0, h1.n + 2, 1, none, 0, 0, false, 0⟩) (t := h1.n + 3) (bs := bs) (l := l) rfl (by simp) bi.len hl8 _ _ _ ⟨w4, by rw [bi.f.g h19.n (by omega) (by simp)]; exact g23, by have := bi.f.n; omega, ⟨fun ho => by have := own1 _ ho; omega, by omega, by show h19.n ≠ h.n + 1; omega, by omega⟩, ⟨.inr ⟨_, _, _, _, _, rfl, by rw [bi.f.g h2.n (by omega) (by simp)]; exact g23t, by have := bi.f.n; show h2.n < h4.n; omega, fun k v hk => by rw [Nat.zero_add]; exact hk⟩, fun b hb => ?_⟩, ⟨bi.o.rd, fun b hb => ?_⟩, fun j p v hp hv => ?_⟩
    · obtain rfl : h2.n = b := hb
      have := bi.f.n
      exact ⟨fun ho => by have := own1 _ ho; omega, by omega, by omega⟩
    · have := bi.fr b hb
      have := ow_lt bi.o b hb
      exact ⟨fun ho => by have := own1 _ ho; omega, by omega, by omega⟩
    · obtain ⟨⟨y1, y2, y3, y4⟩, ⟨z1, z2, z3, z4⟩⟩ := bi.x j p v hp hv
      refine ⟨⟨.inr ⟨_, _, _, _, _, rfl, y1, y3, fun k v hk => by rw [Nat.zero_add]; exact hk⟩, fun b hb => ?_⟩, ⟨.inr ⟨_, _, _, _, _, rfl, z1, z3, fun k v hk => by rw [Nat.zero_add]; exact hk⟩, fun b hb => ?_⟩⟩
      · obtain rfl : p.1 = b := hb
        exact ⟨fun ho => by have := own1 _ ho; omega, by omega, by omega⟩
      · obtain rfl : p.2 = b := hb
        exact ⟨fun ho => by have := own1 _ ho; omega, by omega, by omega⟩
end First
end Go.Lg.Try
