/- NestWhole: a scope that fails leaves all as it found it; one that succeeds leaves what it wrote. -/
import Derived.Test.YtdkammcandclhaaPnestS
import Derived.Test.YtdkammcandclhaaPsetsJ
import Derived.Test.YtdkammcandclhaaPkitPick
import Derived.Test.YtdkammcandclhaaFlaw17
import Derived.Test.YtdkammcandclhaaPokS
namespace Go.Lg.Try
set_option linter.unusedVariables false
set_option linter.unusedSimpArgs false
open Go Go.Proofs
namespace Whole
def Q : Value → AH → Prop := fun v _ => v = .bool true
def encP (p : Int × Int) : List Value := [.int .i64 p.1, .int .i64 p.2]
theorem encP_len (p : Int × Int) : (encP p).length = 2 := rfl
def encB (b : Bool) : List Value := [.bool b]
theorem encB_len (b : Bool) : (encB b).length = 1 := rfl
theorem rdP {h : AH} {a : Option Addr} {l : List (Int × Int)} (hr : Rd h a (l.flatMap encP)) {k : Nat} {p : Int × Int} (hx : l[k]? = some p) : ∃ ad, a = some ad ∧ h.ldI .i64 ad.block (ad.off + k * 2 + 0 * 1) = some p.1 ∧ h.ldI .i64 ad.block (ad.off + k * 2 + 1 * 1) = some p.2 := by
  have hc0 : (l.flatMap encP)[k * 2 + 0]? = some (.int .i64 p.1) := by rw [flat_get_some encP_len (by decide) hx]; rfl
  have hc1 : (l.flatMap encP)[k * 2 + 1]? = some (.int .i64 p.2) := by rw [flat_get_some encP_len (by decide) hx]; rfl
  rcases hr with e | ⟨ad, c, op, ro, e, ha, h1, h2, h3⟩
  · rw [e] at hc0; simp at hc0
  · exact ⟨ad, ha, by rw [Nat.zero_mul, Nat.add_assoc]; exact AH.ldI_of h1 (h3 _ _ hc0), by rw [Nat.one_mul, Nat.add_assoc]; exact AH.ldI_of h1 (h3 _ _ hc1)⟩
theorem rdB {h : AH} {a : Option Addr} {l : List Bool} (hr : Rd h a (l.flatMap encB)) {k : Nat} {v : Bool} (hx : l[k]? = some v) : ∃ ad, a = some ad ∧ h.ldB ad.block (ad.off + k * 1) = some v := by
  have hc : (l.flatMap encB)[k * 1 + 0]? = some (.bool v) := by rw [flat_get_some encB_len (by decide) hx]; rfl
  rcases hr with e | ⟨ad, c, op, ro, e, ha, h1, h2, h3⟩
  · rw [e] at hc; simp at hc
  · have := h3 _ _ hc
    rw [Nat.add_zero] at this
    exact ⟨ad, ha, AH.ldB_of h1 this⟩
/-- what stands is what is told -/
structure Co (nw : List Int) (σ : St) : Prop where
  l : nw.length = 5
  v : ∀ i : Nat, i < 5 → nw[i]? = some (aval (alook σ.writes i))
  k : ∀ i ∈ σ.writes.map Prod.fst, 0 ≤ i ∧ i < 5
theorem len5 {l : List (Int × Int)} (hn : Nk l) (hk : ∀ i ∈ l.map Prod.fst, 0 ≤ i ∧ i < 5) : l.length ≤ 5 := by
  have : ∀ (n : Nat) {l : List Int}, l.Nodup → (∀ i ∈ l, 0 ≤ i ∧ i < (n : Int)) → l.length ≤ n := by
    intro n
    induction n with
    | zero => intro l _ hk; cases l with
      | nil => simp
      | cons x l => have := hk x (List.mem_cons_self ..); omega
    | succ n ih =>
      intro l hl hk
      have h1 := ih (hl.erase (n : Int)) fun i hi => by
        have h2 := hk i (List.mem_of_mem_erase hi)
        have : i ≠ (n : Int) := fun e => by subst e; exact (hl.not_mem_erase hi)
        omega
      have := List.length_erase_le (a := (n : Int)) (l := l)
      by_cases c : (n : Int) ∈ l
      · rw [List.length_erase_of_mem c] at h1; omega
      · rw [List.erase_of_not_mem c] at h1; omega
  have h2 := this 5 (l := l.map Prod.fst) hn (fun i hi => hk i hi)
  rwa [List.length_map] at h2
theorem Co.write {nw : List Int} {σ : St} (c : Co nw σ) {i : Int} (h0 : 0 ≤ i) (h1 : i < 5) (v : Int) (hn : Nk σ.writes) : (σ.write i v).1 = 0 ∧ Co (nw.set i.toNat v) (σ.write i v).2 := by
  have hl := len5 hn c.k
  have e : (σ.write i v).1 = 0 ∧ (σ.write i v).2.writes = aputL σ.writes i v := by
    unfold St.write
    rw [if_neg (by omega), if_neg (by omega)]
    exact ⟨rfl, rfl⟩
  refine ⟨e.1, by rw [List.length_set]; exact c.l, fun k hk => ?_, fun k hk => ?_⟩
  · rw [e.2, alook_put]
    by_cases q : i = (k : Int)
    · subst q
      rw [if_pos rfl, Int.toNat_natCast, List.getElem?_set_self (by rw [c.l]; exact hk)]; rfl
    · rw [if_neg q, List.getElem?_set_ne (by omega)]
      exact c.v k hk
  · rw [e.2, keys_put] at hk
    split at hk
    · exact c.k k hk
    · rcases List.mem_append.mp hk with hk | hk
      · exact c.k k hk
      · obtain rfl : k = i := by simpa using hk
        exact ⟨h0, h1⟩
theorem undo_writes {σ : St} {d n : Nat} {w0 : List (Int × Int)} (j : Jv σ d n w0) (hl : σ.marks.length = d + 1) : σ.undo.2.writes = w0 := by
  unfold St.undo
  rw [if_neg (by omega)]
  show backs σ.writes (σ.past.drop σ.last.1.toNat) = w0
  have : σ.last.1 = (n : Int) := by
    unfold St.last
    rw [if_neg (by omega)]
    show (σ.marks[σ.marks.length - 1]?).getD 0 = _
    rw [hl, Nat.add_sub_cancel, j.at_]; rfl
  rw [this, Int.toNat_natCast]; exact j.bk
theorem keep_writes (σ : St) : σ.keep.2.writes = σ.writes := by unfold St.keep St.last; split <;> rfl
theorem mark_writes (σ : St) : σ.mark.2.writes = σ.writes := by unfold St.mark; split <;> rfl
theorem mark_len {σ : St} (h : σ.marks.length < 8) : σ.mark.2.marks.length = σ.marks.length + 1 := by unfold St.mark; rw [if_neg (by omega)]; simp
theorem write_marks (σ : St) (i v : Int) : (σ.write i v).2.marks = σ.marks := by
  unfold St.write
  repeat' split
  all_goals rfl
/-- a transaction's state, good as it is -/
structure Gd (σ : St) (nw : List Int) (N : Nat) : Prop where
  w : Wf σ N
  o : Mo σ
  c : Co nw σ
  r : σ.reads = []
theorem write_reads (σ : St) (i v : Int) : (σ.write i v).2.reads = σ.reads := by
  unfold St.write
  repeat' split
  all_goals rfl
theorem mark_reads (σ : St) : σ.mark.2.reads = σ.reads := by unfold St.mark; split <;> rfl
theorem keep_reads (σ : St) : σ.keep.2.reads = σ.reads := by unfold St.keep St.last; split <;> rfl
theorem undo_reads (σ : St) : σ.undo.2.reads = σ.reads := by unfold St.undo St.last; split <;> rfl
/-- what is remembered of outer scopes stays right -/
def Pres (d : Nat) (σ σ' : St) : Prop := ∀ D n w0, D < d → Jv σ D n w0 → Jv σ' D n w0
theorem Pres.refl (d : Nat) (σ : St) : Pres d σ σ := fun _ _ _ _ j => j
theorem Pres.trans {d : Nat} {σ σ1 σ2 : St} (a : Pres d σ σ1) (b : Pres d σ1 σ2) : Pres d σ σ2 := fun D n w0 h j => b D n w0 h (a D n w0 h j)
section
variable {p s t q : Nat} {inner : List (Int × Int)} {fails : List Bool} {a4 a7 a1 : Option Addr} {l5 c6 c9 : Nat} {nb tb ib db rb fb : Nat} {deep : Nat} {ahead : List (Int × Int)}
abbrev XX (p s : Nat) : Txc := ⟨p, 1, 0, s, 1, none, 0, 0, false, 0⟩
abbrev cs0 : List Cel := List.replicate 5 ⟨0, 0, 0⟩
def runV (nb tb ib db rb fb : Nat) : Value := fnV (some (k_law17_NestWhole_1, [], [ptr nb, ptr tb, ptr ib, ptr db, ptr rb, ptr fb]))
/-- the law's variables -/
abbrev Bx (a1 a4 a7 : Option Addr) (ahead inner : List (Int × Int)) (fails : List Bool) (c6 c9 : Nat) (t nb tb ib db rb fb deep : Nat) : List Asr :=
  [Cs tb [ptr t] 1, Cs ib [.slice a4 inner.length c6] 1, Cs db [.int .i64 (deep : Nat)] 1, Cs rb [runV nb tb ib db rb fb] 1, Cs fb [.slice a7 fails.length c9] 1, aRds [(a1, ahead.flatMap encP), (a4, inner.flatMap encP), (a7, fails.flatMap encB)]]
abbrev aN (nb : Nat) (nw : List Int) : Asr := Cs nb (nw.map (Value.int .i64)) 5
theorem ldG_of {h : AH} {b o e : Nat} {c : List Value} {op ro : Bool} {f : FuncId × List Value × List Value} (hg : h.get b = some (.cells c op ro e)) (hc : c[o]? = some (fnV (some f))) : h.ldG b o = some (some f) := by
  simp only [AH.ldG, AH.ld_of hg, hc, Option.bind_some]
  rfl
theorem setL1 (l : List Value) (o : Nat) (v : Value) : AH.setL l o [v] = l.set o v := rfl
theorem wr0 {i : Int} (h0 : 0 ≤ i) (h1 : i < 5) (σ : St) (v : Int) : txW (XX p s) (cs0 : List Cel).length σ i v = σ.write i v := by
  have e : openE (XX p s).st (cs0 : List Cel).length i = 0 := by
    simp only [openE, List.length_replicate]
    rw [if_neg (by simp), if_neg (by omega)]
  unfold txW
  rw [if_pos e]
/-- the body's parts -/
abbrev Bd (ab at_ : Nat) (nw : List Int) (a1 a4 a7 : Option Addr) (ahead inner : List (Int × Int)) (fails : List Bool) (c6 c9 : Nat) (t nb tb ib db rb fb deep : Nat) : List Asr :=
  aN nb nw :: Cs ab [.int .i64 (at_ : Nat)] 1 :: Bx a1 a4 a7 ahead inner fails c6 c9 t nb tb ib db rb fb deep
theorem body_loop (hd0 : 0 < deep) (hd6 : deep ≤ 6) {ab at_ : Nat} {Q : Value → AH → Prop} {d : Nat} : ∀ (n i : Nat), 40 - i = n → ∀ (h : AH) (σ : St) (nw : List Int) (N : Nat) (F : List Asr), Gd σ nw N → N + 2 * n < 9000 → i < 1000 →
    H h (aT t (XX p s) :: aSet s σ :: aMem p q cs0 0 :: Bd ab at_ nw a1 a4 a7 ahead inner fails c6 c9 t nb tb ib db rb fb deep ++ F) →
    (∀ h' σ' nw', Gd σ' nw' (N + 2 * n) → σ'.marks = σ.marks → Pres d σ σ' → H h' (aT t (XX p s) :: aSet s σ' :: aMem p q cs0 0 :: Bd ab at_ nw' a1 a4 a7 ahead inner fails c6 c9 t nb tb ib db rb fb deep ++ F) → Ok (law17_NestWhole_1_1_j3 (some ⟨ab, 0, none⟩) h' (some ⟨db, 0, none⟩) (some ⟨rb, 0, none⟩) (some ⟨fb, 0, none⟩)) Q) →
    Ok (law17_NestWhole_1_1_L1 (some ⟨ib, 0, none⟩) (some ⟨tb, 0, none⟩) (some ⟨nb, 0, none⟩) (some ⟨db, 0, none⟩) (some ⟨fb, 0, none⟩) (some ⟨rb, 0, none⟩) (some ⟨ab, 0, none⟩) (i : Nat) h) Q := by
  intro n
  induction n using Nat.strongRecOn with
  | _ n ih =>
  intro i hn h σ nw N F g hN hi w K
  have gm : Gd σ nw (N + 2 * n) := ⟨g.w.more (by omega), g.o, g.c, g.r⟩
  refine Ok.le ?_ law17_NestWhole_1_1_L1_le
  simp only [Option.bind_some, AH.ldS_of (o := 0) (w.u6.get) rfl]
  by_cases c1 : i < inner.length
  rotate_left
  · rw [dec_f (by omega), cond_f]; exact K h σ nw gm rfl (.refl _ _) w
  rw [dec_t (by omega), cond_t]
  by_cases c2 : i < 40
  rotate_left
  · rw [dec_f (by omega), cond_f]; exact K h σ nw gm rfl (.refl _ _) w
  rw [dec_t (by omega), cond_t]
  refine Ok.le ?_ law17_NestWhole_1_1_j5_le
  obtain ⟨x, hx⟩ : ∃ x, inner[i]? = some x := ⟨_, List.getElem?_eq_getElem c1⟩
  obtain ⟨ad, ha, g0, g1⟩ := rdP (((w.mv 10 rfl).rds (p := (a4, inner.flatMap encP)) (by simp)) : Rd h a4 (inner.flatMap encP)) hx
  have hb1 : inB ((i : Nat) : Int) inner.length = true := inB_t (by omega) (by omega)
  have hb2 : inB (0 : Int) 2 = true := rfl
  have hb3 : inB (1 : Int) 2 = true := rfl
  obtain ⟨pk0, pk1⟩ := pickM_bd x.1 5 (by decide)
  have n4 : Nk σ.writes := by obtain ⟨A, qs⟩ := set_at w.u1; exact qs.w.nk
  obtain ⟨we, wc⟩ := g.c.write pk0 pk1 x.2 n4
  have g' : Gd (σ.write (pickM x.1 5) x.2).2 (nw.set (pickM x.1 5).toNat x.2) (N + 2) := ⟨g.w.write _ _, g.o.write _ _, wc, by rw [write_reads]; exact g.r⟩
  subst ha
  simp only [Option.bind_some, AH.ldS_of (o := 0) (w.g 6 rfl) rfl, hb1, hb2, hb3, cond_t, Int.toNat_natCast, g0, pick_eq x.1 5 (by decide) (by decide), asI_i64, AH.ldP_of (o := 0) (w.g 5 rfl) rfl, g1]
  refine Ok.bind (txWrite w (by have := g.w.sz; omega) (pickM x.1 5) x.2) ?_
  rintro _ h2 ⟨rfl, w2⟩
  rw [wr0 pk0 pk1] at w2 ⊢
  obtain ⟨ad2, ha2, _, g12⟩ := rdP (((w2.mv 10 rfl).rds (p := (some ad, inner.flatMap encP)) (by simp)) : Rd h2 (some ad) (inner.flatMap encP)) hx
  obtain rfl := Option.some.inj ha2
  have hb4 : inB (pickM x.1 5) 5 = true := inB_t pk0 pk1
  obtain ⟨h34, s34, w34, _⟩ := (w2.mv 3 rfl : H h2 (aN nb nw :: _)).st (o := 0 + (pickM x.1 5).toNat * 1) [.int .i64 x.2] (by simp [g.c.l]; omega)
  simp only [asI_i64, Option.bind_some, AH.ldS_of (o := 0) (w2.g 6 rfl) rfl, hb1, hb3, hb4, cond_t, g12, s34]
  rw [setL1, Nat.zero_add, Nat.mul_one, ← List.map_set] at w34
  have w35 : H h34 (aT t (XX p s) :: aSet s (σ.write (pickM x.1 5) x.2).2 :: aMem p q cs0 0 :: Bd ab at_ (nw.set (pickM x.1 5).toNat x.2) a1 (some ad) a7 ahead inner fails c6 c9 t nb tb ib db rb fb deep ++ F) := w34.pb 3
  refine Ok.le ?_ law17_NestWhole_1_1_j4_le
  simp only [Option.bind_some, AH.ldI_of (k := .i64) (o := 0) (w35.g 7 rfl) rfl]
  rw [dec_f (show ¬((deep : Nat) : Int) < 1 by omega), cond_f, show IntKind.wrap .i64 (((i : Nat) : Int) + ((deep : Nat) : Int)) = ((i + deep : Nat) : Int) by rw [wrap64 (by omega) (by omega)]; omega]
  refine ih (40 - (i + deep)) (by omega) (i + deep) rfl h34 _ _ (N + 2) F g' (by omega) (by omega) w35 fun h' σ' nw' g5 e5 p5 w5 => K h' σ' nw' ⟨g5.w.more (by omega), g5.o, g5.c, g5.r⟩ (e5.trans (write_marks _ _ _)) (Pres.trans (fun D n w0 _ j => j.write _ _) p5) w5
theorem run_ok (hdl : deep ≤ fails.length) (hd6 : deep ≤ 6) : ∀ (n at_ : Nat), deep - at_ = n → at_ < deep → ∀ (h : AH) (σ : St) (nw : List Int) (N : Nat) (F : List Asr), σ.marks.length = at_ → Gd σ nw N → N + 200 * n < 5000 →
    H h (aT t (XX p s) :: aSet s σ :: aMem p q cs0 0 :: aN nb nw :: Lay (Bx a1 a4 a7 ahead inner fails c6 c9 t nb tb ib db rb fb deep) :: F) →
    Ok (C k_law17_NestWhole_1 [.int .i64 (at_ : Nat), ptr nb, ptr tb, ptr ib, ptr db, ptr rb, ptr fb] h) fun x h' => x = .bool true ∧ ∃ σ' nw', σ'.marks.length = at_ ∧ Gd σ' nw' (N + 200 * n) ∧ Pres at_ σ σ' ∧
      H h' (aT t (XX p s) :: aSet s σ' :: aMem p q cs0 0 :: aN nb nw' :: Lay (Bx a1 a4 a7 ahead inner fails c6 c9 t nb tb ib db rb fb deep) :: F) := by
  intro n
  induction n with
  | zero => intro at_ hn hlt; omega
  | succ n ih =>
    intro at_ hn hlt h σ nw N F hml g hN w
    obtain ⟨n0, n1, n2, n3, n4, rfl⟩ : ∃ n0 n1 n2 n3 n4, nw = [n0, n1, n2, n3, n4] := by
      have := g.c.l
      match nw, this with
      | [a, b, c, d, e], _ => exact ⟨a, b, c, d, e, rfl⟩
    obtain ⟨fv, hfv⟩ : ∃ v, fails[at_]? = some v := ⟨_, List.getElem?_eq_getElem (by omega)⟩
    refine Ok.le ?_ law17_NestWhole_1_le
    unfold F_law17_NestWhole_1
    have w9 := (w.u4.opn_ : H h (Bx a1 a4 a7 ahead inner fails c6 c9 t nb tb ib db rb fb deep ++ _)).push (.cells [.int .i64 (at_ : Nat)] false false 1)
    generalize hh9 : h.push (.cells [.int .i64 (at_ : Nat)] false false 1) = h9 at w9 ⊢
    have w9' : H h9 (aT t (XX p s) :: aSet s σ :: aMem p q cs0 0 :: Bd h.n at_ [n0, n1, n2, n3, n4] a1 a4 a7 ahead inner fails c6 c9 t nb tb ib db rb fb deep ++ F) := w9.pm [7, 8, 9, 10, 0, 1, 2, 3, 4, 5, 6]
    have gN := w9'.g 3 rfl
    obtain ⟨h17, s17, w17, n17⟩ := w9'.var [.int .i64 0, .int .i64 0, .int .i64 0, .int .i64 0, .int .i64 0] [.int .i64 n0, .int .i64 n1, .int .i64 n2, .int .i64 n3, .int .i64 n4] 5 rfl
    simp only [Option.bind_some, AH.ldI_of (k := .i64) (o := 0) gN rfl, AH.ldI_of (k := .i64) (o := 0 + 1) gN rfl, AH.ldI_of (k := .i64) (o := 0 + 2) gN rfl, AH.ldI_of (k := .i64) (o := 0 + 3) gN rfl, AH.ldI_of (k := .i64) (o := 0 + 4) gN rfl, s17, AH.ldP_of (o := 0) (w17.g 6 rfl) rfl]
    have hb0 : hasBody Try.prog k_law17_NestWhole_1_1 = true := by kernel_rfl
    have hb1 : hasBody Try.prog k_law17_NestWhole_1 = true := by kernel_rfl
    have w18 : H h17 (aT t (XX p s) :: aSet s σ :: aMem p q cs0 0 :: Lay (Bd h.n at_ [n0, n1, n2, n3, n4] a1 a4 a7 ahead inner fails c6 c9 t nb tb ib db rb fb deep) :: Cs h9.n [.int .i64 n0, .int .i64 n1, .int .i64 n2, .int .i64 n3, .int .i64 n4] 5 :: F) :=
      (H.cls (L := Bd h.n at_ [n0, n1, n2, n3, n4] a1 a4 a7 ahead inner fails c6 c9 t nb tb ib db rb fb deep) (w17.pm [4, 5, 6, 7, 8, 9, 10, 11, 1, 2, 3, 0])).d3
    refine Ok.bind (scopeS (fid := k_law17_NestWhole_1_1) (caps := [ptr h.n, ptr ib, ptr db, ptr tb, ptr nb, ptr rb, ptr fb]) (B' := fun e X2 σ2 cs2 clk2 m => ∃ nw2, Gd σ2 nw2 (N + 200 * n + 90) ∧ Lay (Bd h.n at_ nw2 a1 a4 a7 ahead inner fails c6 c9 t nb tb ib db rb fb deep) m)
      (P := fun e X2 σ2 cs2 clk2 => e = (if fv then 77 else 0) ∧ X2 = XX p s ∧ cs2 = cs0 ∧ clk2 = 0 ∧ σ2.marks.length = at_ + 1 ∧ Pres (at_ + 1) σ.mark.2 σ2) w18 rfl (by omega) hb0 ?_) ?_
    · intro h1 G w1
      refine Ok.le ?_ law17_NestWhole_1_1_le
      unfold F_law17_NestWhole_1_1
      have w1' : H h1 (aT t (XX p s) :: aSet s σ.mark.2 :: aMem p q cs0 0 :: Bd h.n at_ [n0, n1, n2, n3, n4] a1 a4 a7 ahead inner fails c6 c9 t nb tb ib db rb fb deep ++ G) := (w1.u3.opn_).pm [8, 9, 10, 0, 1, 2, 3, 4, 5, 6, 7]
      have gm : Gd σ.mark.2 [n0, n1, n2, n3, n4] (N + 2) := ⟨g.w.mark, g.o.mark, ⟨g.c.l, fun i hi => by rw [mark_writes]; exact g.c.v i hi, fun i hi => g.c.k i (by rw [mark_writes] at hi; exact hi)⟩, by rw [mark_reads]; exact g.r⟩
      simp only [Option.bind_some, AH.ldI_of (k := .i64) (o := 0) (w1'.g 4 rfl) rfl]
      refine body_loop (d := at_ + 1) (by omega) hd6 (40 - at_) at_ rfl h1 _ _ _ G gm (by omega) (by omega) w1' ?_
      intro h2 σ2 nw2 g2 em2 p2 w2
      have ml : σ.mark.2.marks.length = at_ + 1 := by rw [mark_len (by omega), hml]
      refine Ok.le ?_ law17_NestWhole_1_1_j3_le
      simp only [Option.bind_some, AH.ldI_of (k := .i64) (o := 0) (w2.g 4 rfl) rfl, AH.ldI_of (k := .i64) (o := 0) (w2.g 7 rfl) rfl]
      have J2 : ∀ h3 σ3 nw3, Gd σ3 nw3 (N + 200 * n + 90) → σ3.marks.length = at_ + 1 → Pres (at_ + 1) σ.mark.2 σ3 → H h3 (aT t (XX p s) :: aSet s σ3 :: aMem p q cs0 0 :: Bd h.n at_ nw3 a1 a4 a7 ahead inner fails c6 c9 t nb tb ib db rb fb deep ++ G) →
          Ok (law17_NestWhole_1_1_j2 (some ⟨fb, 0, none⟩) (some ⟨h.n, 0, none⟩) h3) fun x h2 => ∃ e X2 σ2 cs2 clk2 N', x = .int .i64 e ∧ H h2 (aT t X2 :: aSet (XX p s).s σ2 :: aMem (XX p s).p q cs2 clk2 :: (fun m => ∃ nw2, Gd σ2 nw2 (N + 200 * n + 90) ∧ Lay (Bd h.n at_ nw2 a1 a4 a7 ahead inner fails c6 c9 t nb tb ib db rb fb deep) m) :: G) ∧ X2.s = (XX p s).s ∧ X2.p = (XX p s).p ∧ Wf σ2 N' ∧ N' < 900000 ∧ (e = (if fv then 77 else 0) ∧ X2 = XX p s ∧ cs2 = cs0 ∧ clk2 = 0 ∧ σ2.marks.length = at_ + 1 ∧ Pres (at_ + 1) σ.mark.2 σ2) := by
        intro h3 σ3 nw3 g3 m3 p3 w3
        refine Ok.le ?_ law17_NestWhole_1_1_j2_le
        obtain ⟨ad, ha, g0⟩ := rdB (((w3.mv 10 rfl).rds (p := (a7, fails.flatMap encB)) (by simp)) : Rd h3 a7 (fails.flatMap encB)) hfv
        have hb : inB ((at_ : Nat) : Int) fails.length = true := inB_t (by omega) (by omega)
        subst ha
        simp only [Option.bind_some, AH.ldS_of (o := 0) (w3.g 9 rfl) rfl, AH.ldI_of (k := .i64) (o := 0) (w3.g 4 rfl) rfl, hb, cond_t, Int.toNat_natCast, g0]
        have fin : H h3 (aT t (XX p s) :: aSet s σ3 :: aMem p q cs0 0 :: (fun m => ∃ nw2, Gd σ3 nw2 (N + 200 * n + 90) ∧ Lay (Bd h.n at_ nw2 a1 a4 (some ad) ahead inner fails c6 c9 t nb tb ib db rb fb deep) m) :: G) := by
          have := H.cls (L := Bd h.n at_ nw3 a1 a4 (some ad) ahead inner fails c6 c9 t nb tb ib db rb fb deep) (w3.pm [3, 4, 5, 6, 7, 8, 9, 10, 0, 1, 2])
          exact (this.imp fun m hm => ⟨nw3, g3, hm⟩).d3
        cases fv with
        | true => rw [cond_t]; exact Ok.some ⟨_, _, σ3, _, _, _, rfl, fin, rfl, rfl, g3.w, by omega, rfl, rfl, rfl, rfl, m3, p3⟩
        | false =>
          rw [cond_f]
          refine Ok.le ?_ law17_NestWhole_1_1_j1_le
          exact Ok.some ⟨_, _, σ3, _, _, _, rfl, fin, rfl, rfl, g3.w, by omega, rfl, rfl, rfl, rfl, m3, p3⟩
      rw [show IntKind.wrap .i64 (((at_ : Nat) : Int) + 1) = ((at_ + 1 : Nat) : Int) by rw [wrap64 (by omega) (by omega)]; omega]
      by_cases c1 : at_ + 1 < deep
      rotate_left
      · rw [dec_f (by omega), cond_f]
        exact J2 h2 σ2 nw2 ⟨g2.w.more (by omega), g2.o, g2.c, g2.r⟩ (by rw [em2, ml]) p2 w2
      rw [dec_t (by omega), cond_t]
      have gr := ldG_of (o := 0) (w2.g 8 rfl) (f := (k_law17_NestWhole_1, [], [ptr nb, ptr tb, ptr ib, ptr db, ptr rb, ptr fb])) rfl
      simp only [gr, Option.bind_some, fnQ_some, hb1, cond_t, List.nil_append]
      have w2' : H h2 (aT t (XX p s) :: aSet s σ2 :: aMem p q cs0 0 :: aN nb nw2 :: Lay (Bx a1 a4 a7 ahead inner fails c6 c9 t nb tb ib db rb fb deep) :: Cs h.n [.int .i64 (at_ : Nat)] 1 :: G) :=
        (H.cls (L := Bx a1 a4 a7 ahead inner fails c6 c9 t nb tb ib db rb fb deep) (w2.pm [5, 6, 7, 8, 9, 10, 0, 1, 2, 3, 4])).d4
      refine Ok.bind (ih (at_ + 1) (by omega) c1 h2 σ2 nw2 (N + 82) _ (by rw [em2, ml]) ⟨g2.w.more (by omega), g2.o, g2.c, g2.r⟩ (by omega) w2') ?_
      rintro _ h3 ⟨rfl, σ3, nw3, m3, g3, p3, w3⟩
      simp only [asB_b, Option.bind_some, Bool.not_true, cond_f]
      refine J2 h3 σ3 nw3 ⟨g3.w.more (by omega), g3.o, g3.c, g3.r⟩ m3 (Pres.trans p2 p3) ?_
      exact (w3.u4.opn_).pm [6, 7, 8, 9, 10, 0, 1, 2, 3, 4, 5]
    · rintro _ h2 ⟨e, X2, σ2, cs2, clk2, rfl, ⟨rfl, rfl, rfl, rfl, ml2, p2⟩, _, _, w2⟩
      obtain ⟨nw2, w2⟩ := w2.u3.ex
      obtain ⟨g2, w2⟩ := w2.pu
      have hcl : closedM (XX p s).st (if fv = true then 77 else 0) σ.marks.length σ2 = ((if fv = true then 77 else 0), closeSt (if fv = true then 77 else 0) σ2) := by
        unfold closedM
        rw [if_neg (by simp), if_neg (by omega), ml2, hml, show at_ + 1 - at_ = 1 by omega]; rfl
      rw [hcl] at w2 ⊢
      have w3 := (w2.opn_).pm [8, 9, 10, 0, 1, 2, 3, 4, 5, 6, 7, 11]
      obtain ⟨ad, ha, g0⟩ := rdB (((w3.mv 10 rfl).rds (p := (a7, fails.flatMap encB)) (by simp)) : Rd h2 a7 (fails.flatMap encB)) hfv
      have hb : inB ((at_ : Nat) : Int) fails.length = true := inB_t (by omega) (by omega)
      subst ha
      simp only [asI_i64, Option.bind_some, AH.ldS_of (o := 0) (w3.g 9 rfl) rfl, AH.ldI_of (k := .i64) (o := 0) (w3.g 4 rfl) rfl, hb, cond_t, Int.toNat_natCast, g0]
      have js : Jv σ.mark.2 at_ σ.past.length σ.writes := by
        have := Jv.start g.o (by omega)
        rw [hml] at this; exact this
      have j2 := p2 at_ _ _ (by omega) js
      cases fv with
      | true =>
        rw [cond_t]
        have gW := w3.g 11 rfl
        obtain ⟨h33, s33, w33, _⟩ := (w3.mv 3 rfl : H h2 (aN nb nw2 :: _)).st (o := 0) [.int .i64 n0, .int .i64 n1, .int .i64 n2, .int .i64 n3, .int .i64 n4] (by simp [g2.c.l])
        simp only [AH.ldI_of (k := .i64) (o := 0) gW rfl, AH.ldI_of (k := .i64) (o := 0 + 1) gW rfl, AH.ldI_of (k := .i64) (o := 0 + 2) gW rfl, AH.ldI_of (k := .i64) (o := 0 + 3) gW rfl, AH.ldI_of (k := .i64) (o := 0 + 4) gW rfl, Option.bind_some, s33]
        rw [setL_all (by simp [g2.c.l])] at w33
        have ew : (closeSt (if true = true then 77 else 0) σ2) = σ2.undo.2 := rfl
        have eu := undo_writes j2 ml2
        rw [ew] at w33
        refine Ok.some ⟨by simp, σ2.undo.2, [n0, n1, n2, n3, n4], ?_, ⟨g2.w.undo.more (by omega), g2.o.undo g2.w.m0, ⟨g.c.l, fun i hi => by rw [eu]; exact g.c.v i hi, fun i hi => by rw [eu] at hi; exact g.c.k i hi⟩, by rw [undo_reads]; exact g2.r⟩, ?_, ?_⟩
        · have := closeSt_len 77 σ2; rw [show closeSt 77 σ2 = σ2.undo.2 from rfl] at this; omega
        · intro D n w0 hD j
          exact (p2 D n w0 (by omega) (j.mark)).undo (by omega) g2.o.s
        · have w34 := (H.cls (L := Bx a1 a4 (some ad) ahead inner fails c6 c9 t nb tb ib db rb fb deep) (w33.pm [5, 6, 7, 8, 9, 10, 1, 2, 3, 0, 4, 11])).d4
          exact ((w34.mv 5 rfl).drop.mv 5 rfl).drop
      | false =>
        rw [cond_f]
        refine Ok.le ?_ law17_NestWhole_1_j1_le
        have ew : (closeSt (if false = true then 77 else 0) σ2) = σ2.keep.2 := rfl
        rw [ew] at w3
        have eu := keep_writes σ2
        refine Ok.some ⟨by simp, σ2.keep.2, nw2, ?_, ⟨g2.w.keep.more (by omega), g2.o.keep, ⟨g2.c.l, fun i hi => by rw [eu]; exact g2.c.v i hi, fun i hi => by rw [eu] at hi; exact g2.c.k i hi⟩, by rw [keep_reads]; exact g2.r⟩, ?_, ?_⟩
        · have := closeSt_len 0 σ2; rw [show closeSt 0 σ2 = σ2.keep.2 from rfl] at this; omega
        · intro D n w0 hD j
          exact (p2 D n w0 (by omega) (j.mark)).keep (by omega)
        · have w34 := (H.cls (L := Bx a1 a4 (some ad) ahead inner fails c6 c9 t nb tb ib db rb fb deep) (w3.pm [5, 6, 7, 8, 9, 10, 0, 1, 2, 3, 4, 11])).d4
          exact ((w34.mv 5 rfl).drop.mv 5 rfl).drop
/-- the reads at the end -/
structure Rz (σ : St) : Prop where
  z : ∀ i, aok (alook σ.reads i) = true → aval (alook σ.reads i) = 0
  l : σ.reads.length ≤ 100
theorem read_ok {σ : St} {nw : List Int} (hc : Co nw σ) (hz : Rz σ) {k : Nat} (hk : k < 5) (hl : σ.reads.length < 100) : ∃ v, nw[k]? = some v ∧ (readTx (XX p s) σ cs0 (k : Nat)).1 = (v, 0) ∧ (readTx (XX p s) σ cs0 (k : Nat)).2.1 = XX p s ∧ (readTx (XX p s) σ cs0 (k : Nat)).2.2.2 = cs0 ∧ Co nw (readTx (XX p s) σ cs0 (k : Nat)).2.2.1 ∧ Rz (readTx (XX p s) σ cs0 (k : Nat)).2.2.1 ∧
    (readTx (XX p s) σ cs0 (k : Nat)).2.2.1.reads.length ≤ σ.reads.length + 1 ∧ (readTx (XX p s) σ cs0 (k : Nat)).2.2.1.marks = σ.marks := by
  have e : openE (XX p s).st (cs0 : List Cel).length (k : Nat) = 0 := by
    simp only [openE, List.length_replicate]
    rw [if_neg (by simp), if_neg (by omega)]
  have hv := hc.v k hk
  refine ⟨_, hv, ?_⟩
  unfold readTx
  rw [if_neg (show ¬openE (XX p s).st (cs0 : List Cel).length (k : Nat) ≠ 0 from fun h => h e)]
  by_cases c1 : aok (alook σ.writes (k : Nat)) = true
  · rw [if_pos c1]
    exact ⟨rfl, rfl, rfl, hc, hz, by show σ.reads.length ≤ _; omega, rfl⟩
  rw [if_neg c1]
  have hld : (loadM cs0 (k : Nat)).1 = ⟨0, 0, 0⟩ := by
    unfold loadM
    rw [if_neg (by simp only [List.length_replicate]; omega), Int.toNat_natCast, List.getElem?_replicate, if_pos hk]
  rw [hld]
  have hs : staleM (XX p s) σ ⟨0, 0, 0⟩ (k : Nat) = false := by
    simp only [staleM, decide_eq_false_iff_not]
    rintro (h | h | ⟨h1, h2⟩)
    · exact h rfl
    · simp at h
    · exact h2 (hz.z _ h1)
  rw [if_neg (by simp [hs])]
  have hr : (σ.read (k : Nat) 0).1 = 0 ∧ (σ.read (k : Nat) 0).2.reads = (if aok (alook σ.reads (k : Nat)) then σ.reads else aputL σ.reads (k : Nat) 0) := by
    unfold St.read readM
    rw [if_neg (by omega), if_neg (by omega)]
    cases hq : alook σ.reads (k : Nat) with
    | none => simp only [aok, Option.isSome_none]; rw [if_neg (by omega)]; exact ⟨rfl, rfl⟩
    | some x =>
      have := hz.z (k : Nat) (by rw [hq]; rfl)
      rw [hq] at this
      have hx : x = 0 := this
      simp only [hx, if_true, aok, Option.isSome_some]; exact ⟨trivial, trivial⟩
  rw [if_neg (by simp [hr.1])]
  have hw : aval (alook σ.writes (k : Nat)) = 0 := by
    cases hq : alook σ.writes (k : Nat) with
    | none => rfl
    | some x => rw [hq] at c1; simp [aok] at c1
  have hl2 : (σ.read (k : Nat) 0).2.reads.length ≤ σ.reads.length + 1 := by
    rw [hr.2]; split
    · omega
    · rw [len_put]; split <;> omega
  refine ⟨by rw [hw], rfl, rfl, ⟨hc.l, hc.v, hc.k⟩, ⟨fun i hi => ?_, Nat.le_trans hl2 (by omega)⟩, hl2, rfl⟩
  simp only [hr.2] at hi ⊢
  split at hi
  · rename_i h1; rw [if_pos h1]; exact hz.z i hi
  · rename_i h1
    rw [if_neg h1]
    rw [alook_put] at hi ⊢
    split
    · rfl
    · rename_i h2; rw [if_neg h2] at hi; exact hz.z i hi
theorem read_loop {F : List Asr} : ∀ (n k : Nat) {h : AH} {σ : St} {nw : List Int}, 5 - k = n → k ≤ 5 → Co nw σ → Rz σ → σ.reads.length ≤ k → σ.marks.length = 0 →
    H h (aT t (XX p s) :: aSet s σ :: aMem p q cs0 0 :: aN nb nw :: Cs tb [ptr t] 1 :: F) → Ok (law17_NestWhole_L1 (some ⟨tb, 0, none⟩) (some ⟨nb, 0, none⟩) (k : Nat) h) Q := by
  intro n
  induction n with
  | zero =>
    intro k h σ nw hn hk hc hz hl hm w
    refine Ok.le ?_ law17_NestWhole_L1_le
    refine Ok.le ?_ law17_NestWhole_j4_le
    rw [dec_f (by omega), cond_f]
    refine Ok.le ?_ law17_NestWhole_j1_le
    simp only [Option.bind_some, AH.ldP_of (o := 0) (w.g 4 rfl) rfl, txDepth w, asI_i64, hm]
    rw [dec_t (by omega), cond_t]
    simp only [C_closed (f := k_law17_awake) rfl h, Option.bind_some, asB_b]
    exact Ok.some rfl
  | succ n ih =>
    intro k h σ nw hn hk hc hz hl hm w
    refine Ok.le ?_ law17_NestWhole_L1_le
    refine Ok.le ?_ law17_NestWhole_j4_le
    rw [dec_t (by omega), cond_t]
    refine Ok.le ?_ law17_NestWhole_j3_le
    obtain ⟨v, hv, r1, r2, r3, r4, r5, r6, r7⟩ := read_ok (p := p) (s := s) hc hz (show k < 5 by omega) (by omega)
    simp only [Option.bind_some, AH.ldP_of (o := 0) (w.g 4 rfl) rfl]
    refine Ok.bind (txRead w (show (1 : Int) ≤ 1 by decide) (by decide) (k : Nat)) ?_
    rintro _ h2 ⟨rfl, w2⟩
    rw [r2, r3] at w2
    rw [r1]
    have hb : inB ((k : Nat) : Int) 5 = true := inB_t (by omega) (by omega)
    have hg : (nw.map (Value.int .i64))[0 + k * 1]? = some (.int .i64 v) := by rw [Nat.zero_add, Nat.mul_one, List.getElem?_map, hv]; rfl
    simp only [asTu_t, hdO_c, asI_i64, Option.bind_some, List.isEmpty_nil, cond_t, decide_true, Bool.not_true, cond_f, hb, Int.toNat_natCast, AH.ldI_of (k := .i64) (w2.g 3 rfl) hg]
    refine Ok.le ?_ law17_NestWhole_j2_le
    rw [show IntKind.wrap .i64 (((k : Nat) : Int) + 1) = ((k + 1 : Nat) : Int) by rw [wrap64 (by omega) (by omega)]; omega]
    exact ih (k + 1) (by omega) (by omega) r4 r5 (by omega) (by rw [r7]; exact hm) w2
/-- behind the writes ahead -/
theorem ending (hs7 : True) {F : List Asr} {h : AH} {σ : St} {nw : List Int} {N : Nat} (g : Gd σ nw N) (hN : N < 1000) (hm : σ.marks.length = 0)
    (w : H h (aT t (XX p s) :: aSet s σ :: aMem p q cs0 0 :: aN nb nw :: Cs tb [ptr t] 1 :: Cs ib [.slice a4 inner.length c6] 1 :: Cs fb [.slice a7 fails.length c9] 1 :: aRds [(a1, ahead.flatMap encP), (a4, inner.flatMap encP), (a7, fails.flatMap encB)] :: F)) :
    Ok (law17_NestWhole_j6 (some ⟨fb, 0, none⟩) h (some ⟨nb, 0, none⟩) (some ⟨tb, 0, none⟩) (some ⟨ib, 0, none⟩)) Q := by
  refine Ok.le ?_ law17_NestWhole_j6_le
  have hmin : cond (decide ((6 : Int) < ((fails.length : Nat) : Int))) 6 ((fails.length : Nat) : Int) = ((min fails.length 6 : Nat) : Int) := by
    by_cases c : 6 < fails.length
    · rw [dec_t (by omega), cond_t]; omega
    · rw [dec_f (by omega), cond_f]; omega
  generalize hdp : min fails.length 6 = deep at hmin
  obtain ⟨h53, s53, w53, n53⟩ := w.var [.int .i64 0] [.int .i64 (deep : Nat)] 1 rfl
  obtain ⟨h55, s55, w55, n55⟩ := w53.var [fnV none] [runV nb tb ib h.n h53.n fb] 1 rfl
  have s55' : (h53.push (.cells [fnV none] false false 1)).st h53.n 0 [fnV (some (14, [], [.pointer (some ⟨nb, 0, none⟩), .pointer (some ⟨tb, 0, none⟩), .pointer (some ⟨ib, 0, none⟩), .pointer (some ⟨h.n, 0, none⟩), .pointer (some ⟨h53.n, 0, none⟩), .pointer (some ⟨fb, 0, none⟩)]))] = some h55 := s55
  simp only [Option.bind_some, AH.ldS_of (o := 0) (w.g 6 rfl) rfl, hmin, s53, s55', AH.ldI_of (k := .i64) (o := 0) (w55.g 1 rfl) rfl]
  have J5 : ∀ h' σ' nw' (F' : List Asr), Gd σ' nw' 4000 → σ'.marks.length = 0 → H h' (aT t (XX p s) :: aSet s σ' :: aMem p q cs0 0 :: aN nb nw' :: Cs tb [ptr t] 1 :: F') → Ok (law17_NestWhole_j5 (some ⟨tb, 0, none⟩) (some ⟨nb, 0, none⟩) h') Q := fun h' σ' nw' F' g' m' w' => by
    refine Ok.le ?_ law17_NestWhole_j5_le
    exact read_loop _ 0 rfl (by omega) g'.c ⟨fun i hi => by rw [g'.r] at hi; simp [alook, aok] at hi, by rw [g'.r]; simp⟩ (by rw [g'.r]; simp) m' w'
  by_cases c : 0 < deep
  rotate_left
  · rw [dec_f (by omega), cond_f]
    exact J5 h55 σ nw _ ⟨g.w.more (by omega), g.o, g.c, g.r⟩ hm (w55.pm [2, 3, 4, 5, 6, 0, 1])
  rw [dec_t (by omega), cond_t]
  have hb1 : hasBody Try.prog k_law17_NestWhole_1 = true := by kernel_rfl
  have gr := ldG_of (o := 0) (w55.g 0 rfl) (f := (k_law17_NestWhole_1, [], [ptr nb, ptr tb, ptr ib, ptr h.n, ptr h53.n, ptr fb])) rfl
  simp only [gr, Option.bind_some, fnQ_some, hb1, cond_t, List.nil_append]
  have w56 : H h55 (aT t (XX p s) :: aSet s σ :: aMem p q cs0 0 :: aN nb nw :: Lay (Bx a1 a4 a7 ahead inner fails c6 c9 t nb tb ib h.n h53.n fb deep) :: F) :=
    (H.cls (L := Bx a1 a4 a7 ahead inner fails c6 c9 t nb tb ib h.n h53.n fb deep) (w55.pm [6, 7, 1, 0, 8, 9, 2, 3, 4, 5])).d4
  refine Ok.bind (run_ok (by omega) (by omega) deep 0 (by omega) c h55 σ nw N F hm g (by omega) w56) ?_
  rintro _ h2 ⟨rfl, σ', nw', m', g', _, w2⟩
  simp only [asB_b, Option.bind_some, Bool.not_true, cond_f]
  have w3 := w2.u4.opn_
  exact J5 h2 σ' nw' _ ⟨g'.w.more (by omega), g'.o, g'.c, g'.r⟩ m' (w3.pm [6, 7, 8, 9, 0, 1, 2, 3, 4, 5])
theorem ahead_loop {F : List Asr} (l2 : Nat) (hl2 : l2 = ahead.length) : ∀ (n k : Nat) {h : AH} {σ : St} {nw : List Int} {N : Nat}, 40 - k = n → k ≤ 40 → Gd σ nw N → N + 2 * n < 1000 → σ.marks.length = 0 →
    H h (aT t (XX p s) :: aSet s σ :: aMem p q cs0 0 :: aN nb nw :: Cs tb [ptr t] 1 :: Cs ib [.slice a4 inner.length c6] 1 :: Cs fb [.slice a7 fails.length c9] 1 :: aRds [(a1, ahead.flatMap encP), (a4, inner.flatMap encP), (a7, fails.flatMap encB)] :: F) →
    Ok (law17_NestWhole_L2 l2 a1 (some ⟨tb, 0, none⟩) (some ⟨fb, 0, none⟩) (some ⟨ib, 0, none⟩) l5 (some ⟨nb, 0, none⟩) (k : Nat) h) Q := by
  subst hl2
  intro n
  induction n with
  | zero =>
    intro k h σ nw N hn hk g hN hm w
    refine Ok.le ?_ law17_NestWhole_L2_le
    by_cases c1 : k < ahead.length
    · rw [dec_t (by omega), cond_t, dec_f (by omega), cond_f]; exact ending trivial g (by omega) hm w
    · rw [dec_f (by omega), cond_f]; exact ending trivial g (by omega) hm w
  | succ n ih =>
    intro k h σ nw N hn hk g hN hm w
    refine Ok.le ?_ law17_NestWhole_L2_le
    by_cases c1 : k < ahead.length
    rotate_left
    · rw [dec_f (by omega), cond_f]; exact ending trivial g (by omega) hm w
    rw [dec_t (by omega), cond_t, dec_t (by omega), cond_t]
    refine Ok.le ?_ law17_NestWhole_j8_le
    obtain ⟨x, hx⟩ : ∃ x, ahead[k]? = some x := ⟨_, List.getElem?_eq_getElem c1⟩
    obtain ⟨ad, ha, g0, g1⟩ := rdP (((w.mv 7 rfl).rds (p := (a1, ahead.flatMap encP)) (by simp)) : Rd h a1 (ahead.flatMap encP)) hx
    have hb1 : inB ((k : Nat) : Int) ahead.length = true := inB_t (by omega) (by omega)
    have hb2 : inB (0 : Int) 2 = true := rfl
    have hb3 : inB (1 : Int) 2 = true := rfl
    obtain ⟨pk0, pk1⟩ := pickM_bd x.1 5 (by decide)
    have n4 : Nk σ.writes := by obtain ⟨A, qs⟩ := set_at w.u1; exact qs.w.nk
    obtain ⟨we, wc⟩ := g.c.write pk0 pk1 x.2 n4
    have g' : Gd (σ.write (pickM x.1 5) x.2).2 (nw.set (pickM x.1 5).toNat x.2) (N + 2) := ⟨g.w.write _ _, g.o.write _ _, wc, by rw [write_reads]; exact g.r⟩
    subst ha
    simp only [Option.bind_some, hb1, hb2, hb3, cond_t, Int.toNat_natCast, g0, pick_eq x.1 5 (by decide) (by decide), asI_i64, AH.ldP_of (o := 0) (w.g 4 rfl) rfl, g1]
    refine Ok.bind (txWrite w (by have := g.w.sz; omega) (pickM x.1 5) x.2) ?_
    rintro _ h2 ⟨rfl, w2⟩
    rw [wr0 pk0 pk1] at w2 ⊢
    obtain ⟨ad2, ha2, _, g12⟩ := rdP (((w2.mv 7 rfl).rds (p := (some ad, ahead.flatMap encP)) (by simp)) : Rd h2 (some ad) (ahead.flatMap encP)) hx
    obtain rfl := Option.some.inj ha2
    have hb4 : inB (pickM x.1 5) 5 = true := inB_t pk0 pk1
    obtain ⟨h34, s34, w34, _⟩ := (w2.mv 3 rfl : H h2 (aN nb nw :: _)).st (o := 0 + (pickM x.1 5).toNat * 1) [.int .i64 x.2] (by simp [g.c.l]; omega)
    simp only [asI_i64, Option.bind_some, hb1, hb3, hb4, cond_t, g12, s34]
    rw [setL1, Nat.zero_add, Nat.mul_one, ← List.map_set] at w34
    refine Ok.le ?_ law17_NestWhole_j7_le
    rw [show IntKind.wrap .i64 (((k : Nat) : Int) + 1) = ((k + 1 : Nat) : Int) by rw [wrap64 (by omega) (by omega)]; omega]
    exact ih (k + 1) (by omega) (by omega) g' (by omega) (by rw [write_marks]; exact hm) (w34.pb 3)
end
theorem main (h : AH) {a1 : Option Addr} {l2 c3 : Nat} {ahead : List (Int × Int)} (hs1 : SlIn h encP (fun _ => True) a1 l2 c3 ahead) {a4 : Option Addr} {l5 c6 : Nat} {inner : List (Int × Int)} (hs2 : SlIn h encP (fun _ => True) a4 l5 c6 inner) {a7 : Option Addr} {l8 c9 : Nat} {fails : List Bool} (hs3 : SlIn h encB (fun _ => True) a7 l8 c9 fails) :
    Ok (C k_law17_NestWhole [.slice a1 l2 c3, .slice a4 l5 c6, .slice a7 l8 c9] h) Q := by
  have w : H h [aRds [(a1, ahead.flatMap encP), (a4, inner.flatMap encP), (a7, fails.flatMap encB)]] := H.args (by
    intro p hp
    simp only [List.mem_cons, List.not_mem_nil, or_false] at hp
    rcases hp with rfl | rfl | rfl
    · exact hs1.rd
    · exact hs2.rd
    · exact hs3.rd)
  obtain rfl := hs2.len
  obtain rfl := hs3.len
  refine Ok.le ?_ law17_NestWhole_le
  unfold F_law17_NestWhole
  have w11 := w.push (.cells [.slice a4 inner.length c6] false false 1)
  generalize hh11 : h.push (.cells [.slice a4 inner.length c6] false false 1) = h11 at w11 ⊢
  have w12 := w11.push (.cells [.slice a7 fails.length c9] false false 1)
  generalize hh12 : h11.push (.cells [.slice a7 fails.length c9] false false 1) = h12 at w12
  simp only [hh12]
  rcases new_ok h12 5 with ⟨hbad, _⟩ | ⟨_, _, h1, e1, M1, f1, n1⟩
  · omega
  simp only [e1, Option.bind_some, asTu_t, hdO_c, asP_p, asI_i64, List.isEmpty_nil, cond_t, decide_true, Bool.not_true, cond_f]
  have wM : H h1 (aMem (h12.n + 1) h12.n cs0 0 :: _) := w12.fresh f1.n (fun b hb => f1.g b hb (by simp)) (fun b hb => by omega) M1.live fun h'' hg => M1.same2 hg
  refine Ok.le ?_ law17_NestWhole_j10_le
  refine Ok.bind (txBegin wM (o := 1) (by decide)) ?_
  rintro _ h2 ⟨t, s, rfl, w2⟩
  obtain ⟨h29, s29, w29, n29⟩ := w2.var [.pointer none] [ptr t] 1 rfl
  simp only [asTu_t, hdO_c, asP_p, asI_i64, Option.bind_some, List.isEmpty_nil, cond_t, s29, decide_true, Bool.not_true, cond_f]
  refine Ok.le ?_ law17_NestWhole_j9_le
  obtain ⟨h32, s32, w32, n32⟩ := w29.var [.int .i64 0, .int .i64 0, .int .i64 0, .int .i64 0, .int .i64 0] [.int .i64 0, .int .i64 0, .int .i64 0, .int .i64 0, .int .i64 0] 5 rfl
  simp only [s32, Option.bind_some]
  have w33 : H h32 (aT t (XX (h12.n + 1) s) :: aSet s {} :: aMem (h12.n + 1) h12.n cs0 0 :: aN h29.n [0, 0, 0, 0, 0] :: Cs h2.n [ptr t] 1 :: Cs h.n [.slice a4 inner.length c6] 1 :: Cs h11.n [.slice a7 fails.length c9] 1 :: aRds [(a1, ahead.flatMap encP), (a4, inner.flatMap encP), (a7, fails.flatMap encB)] :: []) :=
    w32.pm [2, 3, 4, 0, 1, 6, 5, 7]
  refine ahead_loop l2 hs1.len _ 0 rfl (by omega) (N := 0) ⟨Wf.new, Mo.new, ⟨rfl, fun i hi => ?_, fun i hi => by simp at hi⟩, rfl⟩ (by omega) rfl w33
  match i, hi with
  | 0, _ => rfl
  | 1, _ => rfl
  | 2, _ => rfl
  | 3, _ => rfl
  | 4, _ => rfl
end Whole
end Go.Lg.Try
