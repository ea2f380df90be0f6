/- slices.Insert over elements of any size: what its operations do in the world. -/
import Derived.Test.YtciiigaagggefaaGreatEv11
import Derived.Laws.IdiomCopy
import Derived.Test.YtciiigaagggefaaGreatEv38
import Derived.Shelf.Small.Strs
import Derived.Test.YtciiigaagggefaaGreatEv24
import Derived.Lib.OthersKept
set_option linter.unusedVariables false
set_option linter.unusedSimpArgs false
namespace Go.Lg
set_option linter.unusedVariables false
open Go
variable {P : Program}
theorem run_copy_k (w : World) (dT sT ty elem : TypeId) (k b o dLen dCap : Nat) (a : Addr) (sLen sCap : Nat) (cs : List Value)
    (hu : P.underlying dT = some (.slice elem)) (hs : (P.info? elem).map (·.size) = some k) (hn : cs.length = Nat.min sLen dLen * k)
    (hsrc : ∀ j v, cs[j]? = some v → w.cell? (a.add j) = some v) (hc : ∀ j, j < cs.length → (w.cell? ⟨b, o + j, none⟩).isSome = true) (hf : ∀ j, j < cs.length → w.frozen? ⟨b, o + j, none⟩ = false) (h1 : ∀ v ∈ cs, v.oneCell' = true) :
    (Builtin.copy_ #[dT, sT] ty #[.slice (some ⟨b, o, none⟩) dLen dCap, .slice (some a) sLen sCap]).run P w = .ok (goInt (Nat.min sLen dLen)) (w.setCells b o cs) := by
  have hl := run_loadCells_list (P := P) w a cs hsrc
  have hst := run_storeCells_cells (P := P) b o cs 0 w (by simpa using hc) (by simpa using hf) h1
  cases hq : P.info? elem with
  | none => simp [hq] at hs
  | some i =>
    have hi : i.size = k := by simpa [hq] using hs
    simp [Builtin.copy_, run_underlying hu, Builtin.lenOf, Builtin.firstCells, sizeOf, typeInfo, hq, hi, ← hn, hl, hst]
end Go.Lg

namespace Go.Lg
open Go
set_option linter.unusedVariables false
def compareF (args : List Value) (h : AH) : Res := match args with
  | [.string s, .string t] => some (.int .i64 (Lib.compareBytes s.data.toList t.data.toList), h)
  | _ => none
def onK (k : Nat) (g : List Value → AH → Res) : Over := fun f args h => cond (Nat.beq f k) (g args h) none
theorem onK_ok {P : Program} {k : Nat} {g : List Value → AH → Res} (hk : plainF P k = false)
    (hg : ∀ args h r, g args h = some r → ∀ (φ : Emb) (w : World) (cs : List Value), HRel φ h w → VRs φ args cs → Calls P k cs.toArray w fun e w' => ∃ φ' c, e = .returned c ∧ Good φ w r.2 w' φ' ∧ VR φ' r.1 c) : OvOK P (onK k g) := by
  intro f args h r hr
  unfold onK at hr
  cases hf : Nat.beq f k with
  | false => rw [hf] at hr; cases hr
  | true =>
    obtain rfl := Nat.eq_of_beq_eq_true hf
    rw [hf] at hr
    intro φ w cs hrel hvs
    exact ⟨hg args h r hr φ w cs hrel hvs, fun hp => by rw [hk] at hp; cases hp⟩
theorem compare_ok {P : Program} {k : Nat} (hk : plainF P k = false) (hL : ∃ ρ, Proofs.Lays.n106 P ρ ∧ ρ.f 106 = k) : OvOK P (onK k compareF) := by
  obtain ⟨ρ, L, rfl⟩ := hL
  refine onK_ok hk fun args h r hr φ w cs hrel hvs => ?_
  unfold compareF at hr
  split at hr
  · rename_i s t
    obtain rfl := Option.some.inj hr
    cases hvs with
    | cons h1 h2 => cases h2 with
      | cons h3 h4 =>
        cases h4
        cases h1
        cases h3
        refine (Proofs.Any.strings_Compare L s t w).mono ?_
        rintro e w' ⟨rfl, rfl⟩
        exact ⟨φ, _, rfl, .refl hrel, .int _ _⟩
  · cases hr
end Go.Lg

namespace Go.Lg
set_option linter.unusedVariables false
set_option linter.unusedSimpArgs false
open Go
theorem setCell_comm (w : World) (b o o' : Nat) (v u : Value) (hne : o ≠ o') : (w.setCell ⟨b, o, none⟩ v).setCell ⟨b, o', none⟩ u = (w.setCell ⟨b, o', none⟩ u).setCell ⟨b, o, none⟩ v := by
  unfold World.setCell
  simp only
  congr 1
  apply Array.ext_getElem?
  intro j
  simp only [Array.getElem?_modify]
  by_cases hj : b = j
  · subst hj
    simp only [if_true]
    cases w.heap[b]? with
    | none => rfl
    | some x =>
      cases x <;> simp [Array.setIfInBounds_comm _ _ hne]
  · simp only [if_neg hj]
theorem setCells_comm1 (b : Nat) : ∀ (vs : List Value) (o : Nat) (w : World) (o' : Nat) (u : Value), (o' < o ∨ o + vs.length ≤ o') → (w.setCells b o vs).setCell ⟨b, o', none⟩ u = (w.setCell ⟨b, o', none⟩ u).setCells b o vs
  | [], _, _, _, _, _ => rfl
  | v :: r, o, w, o', u, h => by
    simp only [List.length_cons] at h
    rw [World.setCells, World.setCells, setCells_comm1 b r (o + 1) _ o' u (by omega), setCell_comm w b o o' v u (by omega)]
theorem setCells_join (b : Nat) : ∀ (xs bs : List Value) (o : Nat) (w : World), (w.setCells b (o + xs.length) bs).setCells b o xs = w.setCells b o (xs ++ bs)
  | [], bs, o, w => rfl
  | a :: xs, bs, o, w => by
    rw [World.setCells, setCells_comm1 b bs _ w o a (.inl (by simp only [List.length_cons]; omega)), List.cons_append, World.setCells, List.length_cons, show o + (xs.length + 1) = o + 1 + xs.length by omega]
    exact setCells_join b xs bs (o + 1) _

/-- from the end on: is none below the one ahead of it? -/
def sisB (B : Nat → Bool) : Nat → Bool
  | 0 => true
  | 1 => true
  | n + 2 => if B n then false else sisB B (n + 1)
/-- slices.Insert of one element, with room or at the end -/
def insF (P : Program) (tS k : Nat) (args : List Value) (h : AH) : Res := match args with
  | [.slice base n c, .int .i64 i, .slice (some va) m vc] =>
    cond (Nat.beq m 1) (
    cond (decide (i = (n : Int)))
      (cond (Nat.ble n c && Nat.ble c opn) (aapp P tS tS (.slice base n c) (.slice (some va) 1 vc) h) none)
      (match base with
        | none => none
        | some a => cond (decide (0 ≤ i) && decide (i < (n : Int)) && Nat.beq c opn && Nat.ble vc 1000000)
          (match h.get a.block, h.get va.block with
            | some (.cells cc true false esz), some (.cells vcc vop false vesz) => cond (Nat.beq esz k && Nat.blt 0 k && (Nat.ble (a.off + (n + 1) * k) cc.length && (!Nat.beq a.block va.block && Nat.ble n 1000000000)))
              ((ldRow h va.block va.off k).bind fun xs => (ldRow h a.block a.off (n * k)).bind fun cs =>
                (h.st a.block (a.off + i.toNat * k) (xs ++ cs.drop (i.toNat * k))).bind fun h' => some (.slice (some a) (n + 1) opn, h')) none
            | _, _ => none) none)) none
  | _ => none

theorem ins_ok {P : Program} {FI : FuncId} {tS k : Nat} (hk : plainF P FI = false)
    (hlast : ∀ (base : Option Addr) (n c vc : Nat) (va : Addr) (r : Value) (w w' : World), n ≤ c → (∀ ty, (Builtin.append_ #[tS, tS] ty #[.slice base n c, .slice (some va) 1 vc]).run P w = .ok r w') → (base = none → n = 0) →
      Calls P FI #[.slice base n c, .int .i64 n, .slice (some va) 1 vc] w fun e w'' => e = .returned r ∧ w'' = w')
    (hshift : ∀ (b off n c i vb voff vc : Nat) (cs vs : List Value) (w : World), i < n → n + 1 ≤ c → n ≤ 1000000000 → vb ≠ b → cs.length = n * k → vs.length = k →
      (∀ (j : Nat) (v : Value), cs[j]? = some v → w.cell? ⟨b, off + j, none⟩ = some v) → (∀ j, j < (n + 1) * k → (w.cell? ⟨b, off + j, none⟩).isSome = true) → (∀ j, j < (n + 1) * k → w.frozen? ⟨b, off + j, none⟩ = false) →
      (∀ (j : Nat) (v : Value), vs[j]? = some v → w.cell? ⟨vb, voff + j, none⟩ = some v) → (∀ v ∈ cs, v.oneCell' = true) → (∀ v ∈ vs, v.oneCell' = true) →
      ∀ (tA tB : TypeId) (kA kB : Nat), w.shape? vb = some (tA, kA) → w.shape? b = some (tB, kB) → kB ≠ 0 → w.frozen? ⟨vb, voff, none⟩ = false → w.frozen? ⟨vb, kA, none⟩ = false →
      Calls P FI #[.slice (some ⟨b, off, none⟩) n c, .int .i64 i, .slice (some ⟨vb, voff, none⟩) 1 vc] w fun e w' =>
        e = .returned (.slice (some ⟨b, off, none⟩) (n + 1) c) ∧ w' = (w.drew.setCells b (off + (i + 1) * k) (cs.drop (i * k))).setCells b (off + i * k) vs) :
    OvOK P (onK FI (insF P tS k)) := by
  refine onK_ok hk fun args h r hr φ w cs hrel hvs => ?_
  unfold insF at hr
  split at hr
  · rename_i base n c i va m vc
    cases hm : Nat.beq m 1 with
    | false => rw [hm, cond_false] at hr; cases hr
    | true =>
    rw [hm, cond_true] at hr
    obtain rfl := Nat.eq_of_beq_eq_true hm
    cases hvs with | cons h1 hvs => cases hvs with | cons h2 hvs => cases hvs with | cons h3 hvs =>
    cases hvs
    have h2' := h2
    cases h2
    by_cases hi : i = (n : Int)
    · rw [decide_eq_true hi, cond_true] at hr
      subst hi
      cases hc : (Nat.ble n c && Nat.ble c opn) with
      | false => rw [hc] at hr; cases hr
      | true =>
      rw [hc, cond_true] at hr
      rw [Bool.and_eq_true] at hc
      have hnc := Nat.le_of_ble_eq_true hc.1
      obtain ⟨φ', v, h', cc, w', hrun, hgood, hv, hK⟩ := aappend_sound (P := P) (ty := 0) hrel h1 h3 hr
      simp only [Option.some.injEq] at hK
      subst hK
      have hty : ∀ ty args, Builtin.append_ #[tS, tS] ty args = Builtin.append_ #[tS, tS] 0 args := fun _ _ => rfl
      rcases vr_slice h3 with ⟨t', a', _, _, _, h0, _⟩ | ⟨t3, r3, c3, hφ3, hsp3, rfl, _⟩
      · omega
      · cases base with
        | none =>
          obtain ⟨rfl, rfl, rfl⟩ := vr_sliceN h1
          exact (hlast none 0 0 c3 _ cc w w' (Nat.le_refl _) (fun ty => by rw [hty]; exact hrun) (fun _ => rfl)).mono fun e w'' hh => ⟨φ', cc, hh.1, by rw [hh.2]; exact hgood, hv⟩
        | some ad =>
          rcases vr_slice h1 with ⟨t', a', _, _, _, rfl, rfl, rfl⟩ | ⟨t1, r1, c1, _, _, rfl, hcase⟩
          · exact (hlast (some a') 0 0 c3 _ cc w w' (Nat.le_refl _) (fun ty => by rw [hty]; exact hrun) (fun _ => rfl)).mono fun e w'' hh => ⟨φ', cc, hh.1, by rw [hh.2]; exact hgood, hv⟩
          · have hn1 : n ≤ c1 := by
              rcases hcase with ⟨_, rfl, _⟩ | ⟨_, hle, _⟩
              · exact hnc
              · exact hle
            exact (hlast _ n c1 c3 _ cc w w' hn1 (fun ty => by rw [hty]; exact hrun) (fun e => by cases e)).mono fun e w'' hh => ⟨φ', cc, hh.1, by rw [hh.2]; exact hgood, hv⟩
    · rw [decide_eq_false hi, cond_false] at hr
      split at hr
      · cases hr
      rename_i a
      cases hc : (decide (0 ≤ i) && decide (i < (n : Int)) && Nat.beq c opn && Nat.ble vc 1000000) with
      | false => rw [hc] at hr; cases hr
      | true =>
      rw [hc, cond_true] at hr
      simp only [Bool.and_eq_true, decide_eq_true_eq] at hc
      obtain ⟨⟨⟨hi0, hin⟩, hco⟩, hvc⟩ := hc
      obtain rfl := Nat.eq_of_beq_eq_true hco
      split at hr
      · rename_i cc esz vcc vop vesz hb hvb
        cases hq : (Nat.beq esz k && Nat.blt 0 k && (Nat.ble (a.off + (n + 1) * k) cc.length && (!Nat.beq a.block va.block && Nat.ble n 1000000000))) with
        | false => rw [hq] at hr; cases hr
        | true =>
        rw [hq, cond_true] at hr
        simp only [Bool.and_eq_true] at hq
        obtain ⟨⟨hek, hkp⟩, hroom, hne, hn9⟩ := hq
        obtain rfl := Nat.eq_of_beq_eq_true hek
        have hkp := Nat.le_of_ble_eq_true hkp
        have hroom := Nat.le_of_ble_eq_true hroom
        have hne : a.block ≠ va.block := fun e => by rw [e, Nat.beq_refl] at hne; cases hne
        simp only [Option.bind_eq_some_iff] at hr
        obtain ⟨xs, hxs, ccs, hccs, h', hst, hr⟩ := hr
        obtain rfl := Option.some.inj hr
        obtain ⟨I, rfl⟩ : ∃ I : Nat, i = I := ⟨i.toNat, by omega⟩
        simp only [Int.toNat_natCast] at hst
        have hIn : I < n := by omega
        obtain ⟨t, hφ, hro, hesz, htot, hrow, hcells⟩ := hrel.cells _ _ _ _ _ hb
        obtain ⟨rc, el, hg, hrc⟩ := hrow rfl
        obtain ⟨tv, hφv, hrov, heszv, htotv, hrowv, hcellsv⟩ := hrel.cells _ _ _ _ _ hvb
        obtain ⟨rcv, elv, hgv, hrcv⟩ := hrowv rfl
        have hbne : tv.blk ≠ t.blk := fun e => by
          rcases hrel.inj _ _ _ _ _ _ hb hvb hφ hφv e.symm with h | ⟨h, _⟩
          · exact hne h
          · rw [hro] at h; cases h
        obtain ⟨xcs, x1, x2, x3, x4⟩ := ldRow_rel hrel hφv hxs
        obtain ⟨dcs, d1, d2, d3, d4⟩ := ldRow_rel hrel hφ hccs
        have one : ∀ {l m : List Value}, VRs φ l m → l.all cellOk = true → ∀ v ∈ m, v.oneCell' = true := by
          intro l m hlm hal v hv
          obtain ⟨j, hj, rfl⟩ := List.mem_iff_getElem.1 hv
          have hj' : j < l.length := by rw [hlm.length]; exact hj
          exact (hlm.get2 j l[j] m[j] (by simp) (by simp)).oneCell (by rw [List.all_eq_true] at hal; exact hal _ (List.getElem_mem hj'))
        rcases vr_slice h3 with ⟨t', a', _, _, _, h0, _⟩ | ⟨t3, r3, c3, hφ3, hsp3, rfl, hc3⟩
        · omega
        rw [hφv] at hφ3
        obtain rfl := Option.some.inj hφ3
        have hr3 : r3 = tv.sh + va.off := by
          rcases hc3 with ⟨_, _, h | ⟨h, _⟩⟩ | ⟨_, _, _, h | ⟨h, _⟩⟩ <;> first | exact h | omega
        subst hr3
        rcases vr_slice h1 with ⟨t', a', _, _, _, _, h0, _⟩ | ⟨t1, r1, c1, hφ1, hsp1, rfl, hcase⟩
        · cases h0
        rw [hφ] at hφ1
        obtain rfl := Option.some.inj hφ1
        rcases hcase with ⟨hlt, _⟩ | ⟨_, hle, htc, hra⟩
        · exact absurd hlt (Nat.lt_irrefl _)
        have hc1 : n + 1 ≤ c1 := by
          rcases Nat.lt_or_ge n c1 with h | h
          · exact h
          · exfalso
            have : c1 * t.esz ≤ n * t.esz := Nat.mul_le_mul_right _ h
            have e : (n + 1) * esz = n * esz + esz := by rw [Nat.add_mul, Nat.one_mul]
            rw [hesz] at this htc
            omega
        have hr1 : r1 = t.sh + a.off := by
          rcases hra with h | ⟨h, _⟩
          · exact h
          · omega
        subst hr1
        have hcell : ∀ j, w.cell? ⟨t.blk, j, none⟩ = rc[j]? := fun j => cell_of_row w t.blk j rc el (0, 0) hg
        have hfr : ∀ j, w.frozen? ⟨t.blk, j, none⟩ = false := fun j => frozen_of_row w t.blk j rc el hg
        have hfrv : ∀ j, w.frozen? ⟨tv.blk, j, none⟩ = false := fun j => frozen_of_row w tv.blk j rcv elv hgv
        have hsp : ∀ j, j < (n + 1) * esz → (w.cell? ⟨t.blk, t.sh + a.off + j, none⟩).isSome = true := fun j hj => by
          rw [hcell, Array.getElem?_eq_getElem (by omega)]; rfl
        have hdl : dcs.length = n * esz := by rw [← d1.length, d2]
        have hxl : xcs.length = esz := by rw [← x1.length, x2]
        have hI1 : (I + 1) * esz = I * esz + esz := by rw [Nat.add_mul, Nat.one_mul]
        have hn1 : (n + 1) * esz = n * esz + esz := by rw [Nat.add_mul, Nat.one_mul]
        have hIl : I * esz ≤ n * esz := Nat.mul_le_mul_right _ (by omega)
        have hwalk := hshift t.blk (t.sh + a.off) n c1 I tv.blk (tv.sh + va.off) c3 dcs xcs w hIn hc1 (Nat.le_of_ble_eq_true hn9) hbne hdl hxl d3 hsp (fun j _ => hfr _) x3 (one d1 d4) (one x1 x4)
          elv el rcv.size rc.size (by simp [World.shape?, hgv]) (by simp [World.shape?, hg]) (by omega) (hfrv _) (hfrv _)
        obtain ⟨w', s1, s2⟩ := st_sound (P := P) hrel.drew hφ (x1.append (d1.drop (I * esz))) (by rw [List.all_append, x4, Bool.true_and, List.all_eq_true]; intro v hv; rw [List.all_eq_true] at d4; exact d4 v (List.mem_of_mem_drop hv)) hst
        have hws : (storeCells ⟨t.blk, t.sh + (a.off + I * esz), none⟩ (xcs ++ dcs.drop (I * esz))).run P w.drew = .ok () (w.drew.setCells t.blk (t.sh + (a.off + I * esz)) (xcs ++ dcs.drop (I * esz))) := by
          have hL : (xcs ++ dcs.drop (I * esz)).length + I * esz = (n + 1) * esz := by
            rw [List.length_append, List.length_drop, hdl, hxl]; omega
          have := run_storeCells_cells (P := P) t.blk (t.sh + (a.off + I * esz)) (xcs ++ dcs.drop (I * esz)) 0 w.drew (fun j hj => ?_) (fun j _ => hfr _) (fun v hv => ?_)
          · simpa using this
          · have := hsp (I * esz + j) (by omega)
            simpa [Nat.add_assoc] using this
          · rcases List.mem_append.1 hv with h | h
            · exact one x1 x4 v h
            · exact one d1 d4 v (List.mem_of_mem_drop h)
        rw [hws] at s1
        have hw' : w' = w.drew.setCells t.blk (t.sh + (a.off + I * esz)) (xcs ++ dcs.drop (I * esz)) := by
          simp only [Result.ok.injEq, true_and] at s1; exact s1.symm
        refine hwalk.mono ?_
        rintro e w'' ⟨rfl, rfl⟩
        refine ⟨φ, _, rfl, ?_, ?_⟩
        · have hj := setCells_join t.blk xcs (dcs.drop (I * esz)) (t.sh + (a.off + I * esz)) w.drew
          rw [hxl] at hj
          rw [show t.sh + a.off + (I + 1) * esz = t.sh + (a.off + I * esz) + esz by omega, show t.sh + a.off + I * esz = t.sh + (a.off + I * esz) by omega, hj, ← hw']
          exact (Good.drew hrel).trans s2
        · have hfin := mk_sliceO (o := a.off) (ra := t.sh + a.off) (n := n + 1) hφ hc1 htc (.inl rfl)
          have hae : a = ⟨a.block, a.off, none⟩ := by rw [← hsp1]
          rw [← hae] at hfin
          exact hfin
      · cases hr
  · cases hr
end Go.Lg

namespace Go.Lg
namespace Mg
open Go
set_option linter.unusedVariables false
set_option linter.unusedSimpArgs false
section
variable {α : Type} {ev : α → Value}
def alook (l : List (Int × α)) (i : Int) : Option α := match l with
  | [] => none
  | p :: l => if p.1 = i then some p.2 else alook l i
def aputL (l : List (Int × α)) (i : Int) (v : α) : List (Int × α) := match l with
  | [] => [(i, v)]
  | p :: l => if p.1 = i then (i, v) :: l else p :: aputL l i v
def adelL (l : List (Int × α)) (i : Int) : List (Int × α) := match l with
  | [] => []
  | p :: l => if p.1 = i then l else p :: adelL l i
def aok (v : Option α) : Bool := v.isSome
theorem alook_put (i : Int) (v : α) : ∀ (l : List (Int × α)) (j : Int), alook (aputL l i v) j = if i = j then some v else alook l j
  | [], j => by simp [aputL, alook]
  | p :: l, j => by
    unfold aputL
    by_cases h : p.1 = i
    · rw [if_pos h]
      by_cases h2 : i = j
      · simp [alook, h2]
      · have : ¬ p.1 = j := fun e => h2 (h.symm.trans e)
        simp [alook, h2, this]
    · rw [if_neg h]
      by_cases h2 : p.1 = j
      · have : ¬ i = j := fun e => h (h2.trans e.symm)
        simp [alook, h2, this]
      · simp only [alook, if_neg h2]; exact alook_put i v l j
def Nk (l : List (Int × α)) : Prop := (l.map Prod.fst).Nodup
theorem alook_none {l : List (Int × α)} {i : Int} (h : i ∉ l.map Prod.fst) : alook l i = none := by
  induction l with
  | nil => rfl
  | cons p l ih =>
    simp only [List.map_cons, List.mem_cons, not_or] at h
    unfold alook
    rw [if_neg (fun e => h.1 e.symm)]; exact ih h.2
theorem alook_mem {l : List (Int × α)} {i : Int} : (∃ v, alook l i = some v) ↔ i ∈ l.map Prod.fst := by
  induction l with
  | nil => simp [alook]
  | cons p l ih =>
    unfold alook
    by_cases h : p.1 = i
    · simp [h]
    · rw [if_neg h, ih]
      simp [Ne.symm h]
theorem keys_put (i : Int) (v : α) : ∀ l : List (Int × α), (aputL l i v).map Prod.fst = if i ∈ l.map Prod.fst then l.map Prod.fst else l.map Prod.fst ++ [i]
  | [] => by simp [aputL]
  | p :: l => by
    unfold aputL
    by_cases h : p.1 = i
    · subst h; simp
    · rw [if_neg h, List.map_cons, keys_put i v l, List.map_cons]
      by_cases h2 : i ∈ l.map Prod.fst
      · rw [if_pos h2, if_pos (List.mem_cons_of_mem _ h2)]
      · rw [if_neg h2, if_neg (fun e => by rcases List.mem_cons.mp e with e | e; exact h e.symm; exact h2 e)]; rfl
theorem Nk.put {l : List (Int × α)} (h : Nk l) (i : Int) (v : α) : Nk (aputL l i v) := by
  unfold Nk at *
  rw [keys_put]
  split
  · exact h
  · rename_i hn
    rw [List.nodup_append]
    exact ⟨h, by simp, fun a ha b hb e => by simp at hb; subst hb; subst e; exact hn ha⟩
theorem len_put (l : List (Int × α)) (i : Int) (v : α) : (aputL l i v).length = if aok (alook l i) then l.length else l.length + 1 := by
  have h1 := congrArg List.length (keys_put i v l)
  rw [List.length_map] at h1
  by_cases h : i ∈ l.map Prod.fst
  · obtain ⟨w, hw⟩ := alook_mem.mpr h
    rw [if_pos h, List.length_map] at h1
    rw [h1, hw]; rfl
  · rw [if_neg h] at h1
    rw [alook_none h, h1]; simp [aok]
def prI (e : MapEntry) : Value × Value := (e.key, e.val)
def valM (ev : α → Value) (z0 : Value) : Option α → Value
  | none => z0
  | some v => ev v
def encPr (ev : α → Value) (p : Int × α) : Value × Value := (.int .i64 p.1, ev p.2)
structure MI (ev : α → Value) (h : AH) (r : Nat) (l : List (Int × α)) : Prop where
  ex : ∃ es clk, h.get r = some (.map es clk) ∧ es.map prI = l.map (encPr ev) ∧ (∀ e ∈ es, e.born < clk) ∧ (es.map (·.born)).Nodup
  nk : Nk l
  lt : r < h.n
theorem MI.same {h h' : AH} {r : Nat} {l : List (Int × α)} (hm : MI ev h r l) (hg : h'.get r = h.get r) (hn : h.n ≤ h'.n) : MI ev h' r l := by
  obtain ⟨es, clk, h1, h2⟩ := hm.ex
  exact ⟨⟨es, clk, by rw [hg]; exact h1, h2⟩, hm.nk, Nat.lt_of_lt_of_le hm.lt hn⟩
theorem MI.new (h : AH) : MI ev (h.push (.map [] 0)) h.n [] := ⟨⟨[], 0, AH.get_push_eq _ _, rfl, fun e he => by simp at he, by simp⟩, by simp [Nk], by show h.n < h.n + 1; omega⟩
theorem ent_keys : ∀ {es : List MapEntry} {l : List (Int × α)}, es.map prI = l.map (encPr ev) → keysOk (.int .i64) es = true
  | [], _, _ => rfl
  | e :: es, [], h => by simp at h
  | e :: es, p :: l, h => by
    simp only [List.map_cons, List.cons.injEq, prI, encPr, Prod.mk.injEq] at h
    simp only [keysOk, List.all_cons, h.1.1, keyOk, Bool.and_eq_true]
    exact ⟨rfl, ent_keys h.2⟩
theorem ent_len {es : List MapEntry} {l : List (Int × α)} (h : es.map prI = l.map (encPr ev)) : es.length = l.length := by
  have := congrArg List.length h
  simpa using this
theorem afind_look (i : Int) : ∀ {es : List MapEntry} {l : List (Int × α)} (k : Nat), es.map prI = l.map (encPr ev) → (afind (.int .i64 i) es k).map (·.2) = (alook l i).map ev
  | [], [], k, _ => rfl
  | [], p :: l, k, h => by simp at h
  | e :: es, [], k, h => by simp at h
  | e :: es, p :: l, k, h => by
    simp only [List.map_cons, List.cons.injEq, prI, encPr, Prod.mk.injEq] at h
    obtain ⟨⟨h1, h2⟩, h3⟩ := h
    simp only [afind, alook, h1, keqB]
    by_cases hc : p.1 = i
    · have : (IntKind.i64 == IntKind.i64 && decide (i = p.1)) = true := by rw [hc]; simp
      rw [this, cond_true, if_pos hc, h2]; rfl
    · have : (IntKind.i64 == IntKind.i64 && decide (i = p.1)) = false := by simp [Ne.symm hc]
      rw [this, cond_false, if_neg hc]
      exact afind_look i (k + 1) h3
theorem MI.map {h : AH} {r : Nat} {l : List (Int × α)} (hm : MI ev h r l) : ∃ es, mapOf h (.map (some r)) = some es ∧ es.length = l.length ∧ es.map prI = l.map (encPr ev) := by
  obtain ⟨es, clk, h1, h2, _⟩ := hm.ex
  exact ⟨es, by simp only [mapOf, h1], ent_len h2, h2⟩
theorem look_eq {z0 : Value} {P : Program} {e : TypeId} (hz : zeroOf P e = some z0) {es : List MapEntry} {l : List (Int × α)} (h : es.map prI = l.map (encPr ev)) (i : Int) : lookE P (.int .i64) e (.int .i64 i) es = some (valM ev z0 (alook l i), aok (alook l i)) := by
  have hk : (keyOk (.int .i64) (.int .i64 i) && keysOk (.int .i64) es) = true := by rw [ent_keys h]; rfl
  have hf := afind_look i 0 h
  simp only [lookE, hk, cond_true]
  cases ha : afind (.int .i64 i) es 0 with
  | none =>
    rw [ha] at hf
    cases hl : alook l i with
    | none => simp [hz, valM, aok]
    | some v => rw [hl] at hf; simp at hf
  | some p =>
    rw [ha] at hf
    cases hl : alook l i with
    | none => rw [hl] at hf; simp at hf
    | some v =>
      rw [hl] at hf
      simp at hf
      simp [hf, valM, aok]
theorem putE_eq (i : Int) (v : α) (clk : Nat) {es : List MapEntry} {l : List (Int × α)} (h : es.map prI = l.map (encPr ev)) : (putE (.int .i64 i) (ev v) es clk).1.map prI = (aputL l i v).map (encPr ev) ∧
    ((∀ e ∈ es, e.born < clk) → (es.map (·.born)).Nodup → (∀ e ∈ (putE (.int .i64 i) (ev v) es clk).1, e.born < (putE (.int .i64 i) (ev v) es clk).2) ∧ ((putE (.int .i64 i) (ev v) es clk).1.map (·.born)).Nodup) := by
  have key : ∀ (es : List MapEntry) (l : List (Int × α)) (k : Nat), es.map prI = l.map (encPr ev) → match afind (.int .i64 i) es k with
      | some p => k ≤ p.1 ∧ (es.modify (p.1 - k) (fun e => { e with key := .int .i64 i, val := ev v })).map prI = (aputL l i v).map (encPr ev)
      | none => es.map prI ++ [(.int .i64 i, ev v)] = (aputL l i v).map (encPr ev) := by
    intro es
    induction es with
    | nil =>
      intro l k h
      cases l with
      | nil => simp [afind, aputL, encPr]
      | cons p l => simp at h
    | cons e es ih =>
      intro l k h
      cases l with
      | nil => simp at h
      | cons p l =>
        simp only [List.map_cons, List.cons.injEq, prI, encPr, Prod.mk.injEq] at h
        obtain ⟨⟨h1, h2⟩, h3⟩ := h
        simp only [afind, h1, keqB]
        by_cases hc : p.1 = i
        · have hb : (IntKind.i64 == IntKind.i64 && decide (i = p.1)) = true := by rw [hc]; simp
          rw [hb, cond_true]
          unfold aputL
          rw [if_pos hc]
          refine ⟨Nat.le_refl _, ?_⟩
          simp [prI, encPr, h3]
        · have hb : (IntKind.i64 == IntKind.i64 && decide (i = p.1)) = false := by simp [Ne.symm hc]
          rw [hb, cond_false]
          have := ih l (k + 1) h3
          unfold aputL
          rw [if_neg hc]
          split at this
          · rename_i q hq
            obtain ⟨t1, t2⟩ := this
            refine ⟨by omega, ?_⟩
            have e1 : q.1 - k = (q.1 - (k + 1)) + 1 := by omega
            rw [e1, List.modify_succ_cons, List.map_cons, List.map_cons, t2]
            simp [prI, encPr, h1, h2]
          · simp only [List.map_cons, List.cons_append]
            rw [this]
            simp [prI, encPr, h1, h2]
  have := key es l 0 h
  unfold putE
  cases ha : afind (.int .i64 i) es 0 with
  | none =>
    rw [ha] at this
    simp only at this ⊢
    refine ⟨by rw [List.map_append]; exact this, fun hb hn => ⟨fun e he => ?_, ?_⟩⟩
    · rcases List.mem_append.mp he with he | he
      · have := hb e he; omega
      · simp at he; subst he; simp
    · rw [List.map_append, List.nodup_append]
      refine ⟨hn, by simp, fun a ha b hb' e => ?_⟩
      obtain ⟨x, hx, rfl⟩ := List.mem_map.mp ha
      simp at hb'
      have := hb x hx
      omega
  | some p =>
    rw [ha] at this
    simp only at this ⊢
    refine ⟨by simpa using this.2, fun hb hn => ?_⟩
    have hborn : (es.modify p.1 (fun e => { e with key := .int .i64 i, val := ev v })).map (·.born) = es.map (·.born) := by
      apply List.ext_getElem?
      intro k
      rw [List.getElem?_map, List.getElem?_modify, List.getElem?_map]
      cases es[k]? with
      | none => simp
      | some x => by_cases e : p.1 = k <;> simp [e]
    refine ⟨fun e he => ?_, by rw [hborn]; exact hn⟩
    have : e.born ∈ (es.modify p.1 (fun e => { e with key := .int .i64 i, val := ev v })).map (·.born) := List.mem_map.mpr ⟨e, he, rfl⟩
    rw [hborn] at this
    obtain ⟨x, hx, e2⟩ := List.mem_map.mp this
    have := hb x hx
    omega
theorem MI.put {h : AH} {r : Nat} {l : List (Int × α)} (hm : MI ev h r l) (i : Int) (v : α) : ∃ h', aput (.int .i64) (.map (some r)) (.int .i64 i) (ev v) h = some h' ∧ MI ev h' r (aputL l i v) ∧ h'.n = h.n ∧ ∀ b, b ≠ r → h'.get b = h.get b := by
  obtain ⟨es, clk, h1, h2, h3, h4⟩ := hm.ex
  obtain ⟨q1, q2⟩ := putE_eq i v clk h2
  obtain ⟨q3, q4⟩ := q2 h3 h4
  have hk : (keyOk (.int .i64) (.int .i64 i) && keysOk (.int .i64) es) = true := by rw [ent_keys h2]; rfl
  refine ⟨_, by simp only [aput, h1, hk, cond_true], ⟨⟨_, _, AH.get_set_eq _ _ _, q1, q3, q4⟩, hm.nk.put i v, hm.lt⟩, rfl, fun b hb => AH.get_set_ne _ hb⟩
theorem MI.live {h : AH} {r : Nat} {l : List (Int × α)} (hm : MI ev h r l) : (h.get r).isSome = true ∧ r < h.n := by
  obtain ⟨es, clk, h1, h2⟩ := hm.ex
  exact ⟨by rw [h1]; rfl, hm.lt⟩
theorem MI.same2 {h h' : AH} {r : Nat} {l : List (Int × α)} (hm : MI ev h r l) (hg : h'.get r = h.get r ∧ r < h'.n) : MI ev h' r l := by
  obtain ⟨es, clk, h1, h2⟩ := hm.ex
  exact ⟨⟨es, clk, by rw [hg.1]; exact h1, h2⟩, hm.nk, hg.2⟩
/-- a map as a part -/
def aM (ev : α → Value) (r : Nat) (l : List (Int × α)) : Asr := Up (fun h => MI ev h r l) fun b => b = r
theorem m_at {h : AH} {F : List Asr} {r : Nat} {l : List (Int × α)} (hh : H h (aM ev r l :: F)) : MI ev h r l := hh.of_up
theorem m_new {h : AH} {F : List Asr} (hh : H h F) : H (h.push (.map [] 0)) (aM ev h.n [] :: F) :=
  hh.fresh (Nat.le_succ _) (fun b hb => AH.get_push_ne _ (by omega)) (fun b hb => by rw [hb]; exact Nat.le_refl _) (fun b hb => by subst hb; exact (MI.new (ev := ev) h).live) fun h'' hg => (MI.new (ev := ev) h).same2 (hg _ rfl)
theorem m_put {h : AH} {F : List Asr} {r : Nat} {l : List (Int × α)} (hh : H h (aM ev r l :: F)) (i : Int) (v : α) : ∃ h', aput (.int .i64) (.map (some r)) (.int .i64 i) (ev v) h = some h' ∧ H h' (aM ev r (aputL l i v) :: F) ∧ h'.n = h.n := by
  have hm := m_at hh
  obtain ⟨h', e, m, n, g⟩ := hm.put i v
  exact ⟨h', e, hh.run (by omega) (fun b hb hn => g b hn) (fun b hb => .inl hb) (fun b hb => by subst hb; exact m.live) (fun h'' hg => m.same2 (hg _ rfl)), n⟩
end
end Mg
end Go.Lg

namespace Go.Lg
namespace Mt
open Go
set_option linter.unusedVariables false
set_option linter.unusedSimpArgs false
theorem seqB_ne {a b : ByteArray} (h : ¬ b = a) : seqB a b = false := by
  cases hq : seqB a b with
  | false => rfl
  | true => exact absurd (seqB_iff.mp hq).symm h
instance : ReflBEq ByteArray := ⟨fun {a} => by rw [seqB_beq]; exact seqB_iff.mpr rfl⟩
instance : LawfulBEq ByteArray where
  eq_of_beq := fun {a b} h => seqB_iff.mp (by rw [← seqB_beq]; exact h)
section
variable {α : Type} {ev : α → Value}
def alook (l : List (ByteArray × α)) (i : ByteArray) : Option α := match l with
  | [] => none
  | p :: l => if p.1 = i then some p.2 else alook l i
def aputL (l : List (ByteArray × α)) (i : ByteArray) (v : α) : List (ByteArray × α) := match l with
  | [] => [(i, v)]
  | p :: l => if p.1 = i then (i, v) :: l else p :: aputL l i v
def adelL (l : List (ByteArray × α)) (i : ByteArray) : List (ByteArray × α) := match l with
  | [] => []
  | p :: l => if p.1 = i then l else p :: adelL l i
def aok (v : Option α) : Bool := v.isSome
theorem alook_put (i : ByteArray) (v : α) : ∀ (l : List (ByteArray × α)) (j : ByteArray), alook (aputL l i v) j = if i = j then some v else alook l j
  | [], j => by simp [aputL, alook]
  | p :: l, j => by
    unfold aputL
    by_cases h : p.1 = i
    · rw [if_pos h]
      by_cases h2 : i = j
      · simp [alook, h2]
      · have : ¬ p.1 = j := fun e => h2 (h.symm.trans e)
        simp [alook, h2, this]
    · rw [if_neg h]
      by_cases h2 : p.1 = j
      · have : ¬ i = j := fun e => h (h2.trans e.symm)
        simp [alook, h2, this]
      · simp only [alook, if_neg h2]; exact alook_put i v l j
def Nk (l : List (ByteArray × α)) : Prop := (l.map Prod.fst).Nodup
theorem alook_none {l : List (ByteArray × α)} {i : ByteArray} (h : i ∉ l.map Prod.fst) : alook l i = none := by
  induction l with
  | nil => rfl
  | cons p l ih =>
    simp only [List.map_cons, List.mem_cons, not_or] at h
    unfold alook
    rw [if_neg (fun e => h.1 e.symm)]; exact ih h.2
theorem alook_mem {l : List (ByteArray × α)} {i : ByteArray} : (∃ v, alook l i = some v) ↔ i ∈ l.map Prod.fst := by
  induction l with
  | nil => simp [alook]
  | cons p l ih =>
    unfold alook
    by_cases h : p.1 = i
    · simp [h]
    · rw [if_neg h, ih]
      simp [Ne.symm h]
theorem keys_put (i : ByteArray) (v : α) : ∀ l : List (ByteArray × α), (aputL l i v).map Prod.fst = if i ∈ l.map Prod.fst then l.map Prod.fst else l.map Prod.fst ++ [i]
  | [] => by simp [aputL]
  | p :: l => by
    unfold aputL
    by_cases h : p.1 = i
    · subst h; simp
    · rw [if_neg h, List.map_cons, keys_put i v l, List.map_cons]
      by_cases h2 : i ∈ l.map Prod.fst
      · rw [if_pos h2, if_pos (List.mem_cons_of_mem _ h2)]
      · rw [if_neg h2, if_neg (fun e => by rcases List.mem_cons.mp e with e | e; exact h e.symm; exact h2 e)]; rfl
theorem Nk.put {l : List (ByteArray × α)} (h : Nk l) (i : ByteArray) (v : α) : Nk (aputL l i v) := by
  unfold Nk at *
  rw [keys_put]
  split
  · exact h
  · rename_i hn
    rw [List.nodup_append]
    exact ⟨h, by simp, fun a ha b hb e => by simp at hb; subst hb; subst e; exact hn ha⟩
theorem len_put (l : List (ByteArray × α)) (i : ByteArray) (v : α) : (aputL l i v).length = if aok (alook l i) then l.length else l.length + 1 := by
  have h1 := congrArg List.length (keys_put i v l)
  rw [List.length_map] at h1
  by_cases h : i ∈ l.map Prod.fst
  · obtain ⟨w, hw⟩ := alook_mem.mpr h
    rw [if_pos h, List.length_map] at h1
    rw [h1, hw]; rfl
  · rw [if_neg h] at h1
    rw [alook_none h, h1]; simp [aok]
theorem keys_del (i : ByteArray) : ∀ l : List (ByteArray × α), (adelL l i).map Prod.fst = (l.map Prod.fst).erase i
  | [] => rfl
  | p :: l => by
    unfold adelL
    by_cases h : p.1 = i
    · rw [if_pos h, List.map_cons, h, List.erase_cons_head]
    · rw [if_neg h, List.map_cons, List.map_cons, List.erase_cons_tail (by simpa using h), keys_del i l]
theorem Nk.del {l : List (ByteArray × α)} (h : Nk l) (i : ByteArray) : Nk (adelL l i) := by
  unfold Nk at *
  rw [keys_del]
  exact h.erase i
theorem alook_del {l : List (ByteArray × α)} (h : Nk l) (i j : ByteArray) : alook (adelL l i) j = if i = j then none else alook l j := by
  induction l with
  | nil => simp [adelL, alook]
  | cons p l ih =>
    unfold Nk at h
    rw [List.map_cons, List.nodup_cons] at h
    unfold adelL
    by_cases h1 : p.1 = i
    · rw [if_pos h1]
      by_cases h2 : i = j
      · rw [if_pos h2]
        exact alook_none (by rw [← h2, ← h1]; exact h.1)
      · rw [if_neg h2]
        have : ¬ p.1 = j := fun e => h2 (h1.symm.trans e)
        simp [alook, this]
    · rw [if_neg h1]
      by_cases h2 : p.1 = j
      · have : ¬ i = j := fun e => h1 (h2.trans e.symm)
        simp [alook, h2, this]
      · simp only [alook, if_neg h2]; exact ih h.2
def prI (e : MapEntry) : Value × Value := (e.key, e.val)
def valM (ev : α → Value) (z0 : Value) : Option α → Value
  | none => z0
  | some v => ev v
def encPr (ev : α → Value) (p : ByteArray × α) : Value × Value := (.string p.1, ev p.2)
structure MI (ev : α → Value) (h : AH) (r : Nat) (l : List (ByteArray × α)) : Prop where
  ex : ∃ es clk, h.get r = some (.map es clk) ∧ es.map prI = l.map (encPr ev) ∧ (∀ e ∈ es, e.born < clk) ∧ (es.map (·.born)).Nodup
  nk : Nk l
  lt : r < h.n
theorem MI.same {h h' : AH} {r : Nat} {l : List (ByteArray × α)} (hm : MI ev h r l) (hg : h'.get r = h.get r) (hn : h.n ≤ h'.n) : MI ev h' r l := by
  obtain ⟨es, clk, h1, h2⟩ := hm.ex
  exact ⟨⟨es, clk, by rw [hg]; exact h1, h2⟩, hm.nk, Nat.lt_of_lt_of_le hm.lt hn⟩
theorem MI.new (h : AH) : MI ev (h.push (.map [] 0)) h.n [] := ⟨⟨[], 0, AH.get_push_eq _ _, rfl, fun e he => by simp at he, by simp⟩, by simp [Nk], by show h.n < h.n + 1; omega⟩
theorem ent_keys : ∀ {es : List MapEntry} {l : List (ByteArray × α)}, es.map prI = l.map (encPr ev) → keysOk .string es = true
  | [], _, _ => rfl
  | e :: es, [], h => by simp at h
  | e :: es, p :: l, h => by
    simp only [List.map_cons, List.cons.injEq, prI, encPr, Prod.mk.injEq] at h
    simp only [keysOk, List.all_cons, h.1.1, keyOk, Bool.and_eq_true]
    exact ⟨by first | rfl | trivial, ent_keys h.2⟩
theorem ent_len {es : List MapEntry} {l : List (ByteArray × α)} (h : es.map prI = l.map (encPr ev)) : es.length = l.length := by
  have := congrArg List.length h
  simpa using this
theorem afind_look (i : ByteArray) : ∀ {es : List MapEntry} {l : List (ByteArray × α)} (k : Nat), es.map prI = l.map (encPr ev) → (afind (.string i) es k).map (·.2) = (alook l i).map ev
  | [], [], k, _ => rfl
  | [], p :: l, k, h => by simp at h
  | e :: es, [], k, h => by simp at h
  | e :: es, p :: l, k, h => by
    simp only [List.map_cons, List.cons.injEq, prI, encPr, Prod.mk.injEq] at h
    obtain ⟨⟨h1, h2⟩, h3⟩ := h
    simp only [afind, alook, h1, keqB]
    by_cases hc : p.1 = i
    · have : seqB i p.1 = true := seqB_iff.mpr hc.symm
      rw [this, cond_true, if_pos hc, h2]; rfl
    · have : seqB i p.1 = false := seqB_ne hc
      rw [this, cond_false, if_neg hc]
      exact afind_look i (k + 1) h3
theorem MI.map {h : AH} {r : Nat} {l : List (ByteArray × α)} (hm : MI ev h r l) : ∃ es, mapOf h (.map (some r)) = some es ∧ es.length = l.length ∧ es.map prI = l.map (encPr ev) := by
  obtain ⟨es, clk, h1, h2, _⟩ := hm.ex
  exact ⟨es, by simp only [mapOf, h1], ent_len h2, h2⟩
theorem look_eq {z0 : Value} {P : Program} {e : TypeId} (hz : zeroOf P e = some z0) {es : List MapEntry} {l : List (ByteArray × α)} (h : es.map prI = l.map (encPr ev)) (i : ByteArray) : lookE P .string e (.string i) es = some (valM ev z0 (alook l i), aok (alook l i)) := by
  have hk : (keyOk .string (.string i) && keysOk .string es) = true := by rw [ent_keys h]; rfl
  have hf := afind_look i 0 h
  simp only [lookE, hk, cond_true]
  cases ha : afind (.string i) es 0 with
  | none =>
    rw [ha] at hf
    cases hl : alook l i with
    | none => simp [hz, valM, aok]
    | some v => rw [hl] at hf; simp at hf
  | some p =>
    rw [ha] at hf
    cases hl : alook l i with
    | none => rw [hl] at hf; simp at hf
    | some v =>
      rw [hl] at hf
      simp at hf
      simp [hf, valM, aok]
theorem putE_eq (i : ByteArray) (v : α) (clk : Nat) {es : List MapEntry} {l : List (ByteArray × α)} (h : es.map prI = l.map (encPr ev)) : (putE (.string i) (ev v) es clk).1.map prI = (aputL l i v).map (encPr ev) ∧
    ((∀ e ∈ es, e.born < clk) → (es.map (·.born)).Nodup → (∀ e ∈ (putE (.string i) (ev v) es clk).1, e.born < (putE (.string i) (ev v) es clk).2) ∧ ((putE (.string i) (ev v) es clk).1.map (·.born)).Nodup) := by
  have key : ∀ (es : List MapEntry) (l : List (ByteArray × α)) (k : Nat), es.map prI = l.map (encPr ev) → match afind (.string i) es k with
      | some p => k ≤ p.1 ∧ (es.modify (p.1 - k) (fun e => { e with key := .string i, val := ev v })).map prI = (aputL l i v).map (encPr ev)
      | none => es.map prI ++ [(.string i, ev v)] = (aputL l i v).map (encPr ev) := by
    intro es
    induction es with
    | nil =>
      intro l k h
      cases l with
      | nil => simp [afind, aputL, encPr]
      | cons p l => simp at h
    | cons e es ih =>
      intro l k h
      cases l with
      | nil => simp at h
      | cons p l =>
        simp only [List.map_cons, List.cons.injEq, prI, encPr, Prod.mk.injEq] at h
        obtain ⟨⟨h1, h2⟩, h3⟩ := h
        simp only [afind, h1, keqB]
        by_cases hc : p.1 = i
        · have hb : seqB i p.1 = true := seqB_iff.mpr hc.symm
          rw [hb, cond_true]
          unfold aputL
          rw [if_pos hc]
          refine ⟨Nat.le_refl _, ?_⟩
          simp [prI, encPr, h3]
        · have hb : seqB i p.1 = false := seqB_ne hc
          rw [hb, cond_false]
          have := ih l (k + 1) h3
          unfold aputL
          rw [if_neg hc]
          split at this
          · rename_i q hq
            obtain ⟨t1, t2⟩ := this
            refine ⟨by omega, ?_⟩
            have e1 : q.1 - k = (q.1 - (k + 1)) + 1 := by omega
            rw [e1, List.modify_succ_cons, List.map_cons, List.map_cons, t2]
            simp [prI, encPr, h1, h2]
          · simp only [List.map_cons, List.cons_append]
            rw [this]
            simp [prI, encPr, h1, h2]
  have := key es l 0 h
  unfold putE
  cases ha : afind (.string i) es 0 with
  | none =>
    rw [ha] at this
    simp only at this ⊢
    refine ⟨by rw [List.map_append]; exact this, fun hb hn => ⟨fun e he => ?_, ?_⟩⟩
    · rcases List.mem_append.mp he with he | he
      · have := hb e he; omega
      · simp at he; subst he; simp
    · rw [List.map_append, List.nodup_append]
      refine ⟨hn, by simp, fun a ha b hb' e => ?_⟩
      obtain ⟨x, hx, rfl⟩ := List.mem_map.mp ha
      simp at hb'
      have := hb x hx
      omega
  | some p =>
    rw [ha] at this
    simp only at this ⊢
    refine ⟨by simpa using this.2, fun hb hn => ?_⟩
    have hborn : (es.modify p.1 (fun e => { e with key := .string i, val := ev v })).map (·.born) = es.map (·.born) := by
      apply List.ext_getElem?
      intro k
      rw [List.getElem?_map, List.getElem?_modify, List.getElem?_map]
      cases es[k]? with
      | none => simp
      | some x => by_cases e : p.1 = k <;> simp [e]
    refine ⟨fun e he => ?_, by rw [hborn]; exact hn⟩
    have : e.born ∈ (es.modify p.1 (fun e => { e with key := .string i, val := ev v })).map (·.born) := List.mem_map.mpr ⟨e, he, rfl⟩
    rw [hborn] at this
    obtain ⟨x, hx, e2⟩ := List.mem_map.mp this
    have := hb x hx
    omega
theorem MI.put {h : AH} {r : Nat} {l : List (ByteArray × α)} (hm : MI ev h r l) (i : ByteArray) (v : α) : ∃ h', aput .string (.map (some r)) (.string i) (ev v) h = some h' ∧ MI ev h' r (aputL l i v) ∧ h'.n = h.n ∧ ∀ b, b ≠ r → h'.get b = h.get b := by
  obtain ⟨es, clk, h1, h2, h3, h4⟩ := hm.ex
  obtain ⟨q1, q2⟩ := putE_eq i v clk h2
  obtain ⟨q3, q4⟩ := q2 h3 h4
  have hk : (keyOk .string (.string i) && keysOk .string es) = true := by rw [ent_keys h2]; rfl
  refine ⟨_, by simp only [aput, h1, hk, cond_true], ⟨⟨_, _, AH.get_set_eq _ _ _, q1, q3, q4⟩, hm.nk.put i v, hm.lt⟩, rfl, fun b hb => AH.get_set_ne _ hb⟩
theorem delE_eq (i : ByteArray) : ∀ {es : List MapEntry} {l : List (ByteArray × α)}, es.map prI = l.map (encPr ev) → (delE (.string i) es).map prI = (adelL l i).map (encPr ev) ∧ (delE (.string i) es).Sublist es := by
  have key : ∀ (es : List MapEntry) (l : List (ByteArray × α)) (k : Nat), es.map prI = l.map (encPr ev) → match afind (.string i) es k with
      | some p => k ≤ p.1 ∧ (es.eraseIdx (p.1 - k)).map prI = (adelL l i).map (encPr ev)
      | none => es.map prI = (adelL l i).map (encPr ev) := by
    intro es
    induction es with
    | nil =>
      intro l k h
      cases l with
      | nil => simp [afind, adelL]
      | cons p l => simp at h
    | cons e es ih =>
      intro l k h
      cases l with
      | nil => simp at h
      | cons p l =>
        simp only [List.map_cons, List.cons.injEq, prI, encPr, Prod.mk.injEq] at h
        obtain ⟨⟨h1, h2⟩, h3⟩ := h
        simp only [afind, h1, keqB]
        by_cases hc : p.1 = i
        · have hb : seqB i p.1 = true := seqB_iff.mpr hc.symm
          rw [hb, cond_true]
          unfold adelL
          rw [if_pos hc]
          exact ⟨Nat.le_refl _, by simpa [prI, encPr] using h3⟩
        · have hb : seqB i p.1 = false := seqB_ne hc
          rw [hb, cond_false]
          have := ih l (k + 1) h3
          unfold adelL
          rw [if_neg hc]
          split at this
          · rename_i q hq
            obtain ⟨t1, t2⟩ := this
            refine ⟨by omega, ?_⟩
            have e1 : q.1 - k = (q.1 - (k + 1)) + 1 := by omega
            rw [e1, List.eraseIdx_cons_succ, List.map_cons, List.map_cons, t2]
            simp [prI, encPr, h1, h2]
          · simp only [List.map_cons]
            rw [this]
            simp [prI, encPr, h1, h2]
  intro es l h
  have := key es l 0 h
  unfold delE
  cases ha : afind (.string i) es 0 with
  | none => rw [ha] at this; exact ⟨this, List.Sublist.refl _⟩
  | some p => rw [ha] at this; exact ⟨by simpa using this.2, List.eraseIdx_sublist _ _⟩
theorem MI.del {h : AH} {r : Nat} {l : List (ByteArray × α)} (hm : MI ev h r l) (i : ByteArray) : ∃ h', adel .string (.map (some r)) (.string i) h = some h' ∧ MI ev h' r (adelL l i) ∧ h'.n = h.n ∧ ∀ b, b ≠ r → h'.get b = h.get b := by
  obtain ⟨es, clk, h1, h2, h3, h4⟩ := hm.ex
  obtain ⟨q1, q2⟩ := delE_eq i h2
  have hk : (keyOk .string (.string i) && keysOk .string es) = true := by rw [ent_keys h2]; rfl
  exact ⟨_, by simp only [adel, h1, hk, cond_true], ⟨⟨_, _, AH.get_set_eq _ _ _, q1, fun e he => h3 e (q2.subset he), h4.sublist (q2.map _)⟩, hm.nk.del i, hm.lt⟩, rfl, fun b hb => AH.get_set_ne _ hb⟩
theorem MI.live {h : AH} {r : Nat} {l : List (ByteArray × α)} (hm : MI ev h r l) : (h.get r).isSome = true ∧ r < h.n := by
  obtain ⟨es, clk, h1, h2⟩ := hm.ex
  exact ⟨by rw [h1]; rfl, hm.lt⟩
theorem MI.same2 {h h' : AH} {r : Nat} {l : List (ByteArray × α)} (hm : MI ev h r l) (hg : h'.get r = h.get r ∧ r < h'.n) : MI ev h' r l := by
  obtain ⟨es, clk, h1, h2⟩ := hm.ex
  exact ⟨⟨es, clk, by rw [hg.1]; exact h1, h2⟩, hm.nk, hg.2⟩
/-- a map as a part -/
def aM (ev : α → Value) (r : Nat) (l : List (ByteArray × α)) : Asr := Up (fun h => MI ev h r l) fun b => b = r
theorem m_at {h : AH} {F : List Asr} {r : Nat} {l : List (ByteArray × α)} (hh : H h (aM ev r l :: F)) : MI ev h r l := hh.of_up
theorem m_new {h : AH} {F : List Asr} (hh : H h F) : H (h.push (.map [] 0)) (aM ev h.n [] :: F) :=
  hh.fresh (Nat.le_succ _) (fun b hb => AH.get_push_ne _ (by omega)) (fun b hb => by rw [hb]; exact Nat.le_refl _) (fun b hb => by subst hb; exact (MI.new (ev := ev) h).live) fun h'' hg => (MI.new (ev := ev) h).same2 (hg _ rfl)
theorem m_put {h : AH} {F : List Asr} {r : Nat} {l : List (ByteArray × α)} (hh : H h (aM ev r l :: F)) (i : ByteArray) (v : α) : ∃ h', aput .string (.map (some r)) (.string i) (ev v) h = some h' ∧ H h' (aM ev r (aputL l i v) :: F) ∧ h'.n = h.n := by
  have hm := m_at hh
  obtain ⟨h', e, m, n, g⟩ := hm.put i v
  exact ⟨h', e, hh.run (by omega) (fun b hb hn => g b hn) (fun b hb => .inl hb) (fun b hb => by subst hb; exact m.live) (fun h'' hg => m.same2 (hg _ rfl)), n⟩
theorem m_del {h : AH} {F : List Asr} {r : Nat} {l : List (ByteArray × α)} (hh : H h (aM ev r l :: F)) (i : ByteArray) : ∃ h', adel .string (.map (some r)) (.string i) h = some h' ∧ H h' (aM ev r (adelL l i) :: F) := by
  have hm := m_at hh
  obtain ⟨h', e, m, n, g⟩ := hm.del i
  exact ⟨h', e, hh.run (by omega) (fun b hb hn => g b hn) (fun b hb => .inl hb) (fun b hb => by subst hb; exact m.live) (fun h'' hg => m.same2 (hg _ rfl))⟩
end
end Mt
end Go.Lg

namespace Go.Lg
set_option linter.unusedVariables false
set_option linter.unusedSimpArgs false
open Go
open Go.RowKit (Below)
/-- the keys of a list of entries -/
def keyL (h : AH) (b o : Nat) : Nat → Option (List ByteArray)
  | 0 => some []
  | n + 1 => (keyL h b o n).bind fun l => (h.ldStr b (o + n * 3 + 1)).bind fun x => some (l ++ [x])
theorem keyL_inv {h : AH} {b o : Nat} : ∀ {n : Nat} {l : List ByteArray}, keyL h b o n = some l → l.length = n ∧ ∀ j, j < n → h.ldStr b (o + j * 3 + 1) = some (l.getD j ⟨#[]⟩)
  | 0, l, e => by
    simp only [keyL, Option.some.injEq] at e
    subst e
    exact ⟨rfl, fun j hj => by omega⟩
  | n + 1, l, e => by
    simp only [keyL, Option.bind_eq_some_iff] at e
    obtain ⟨l0, e0, x, ex, e⟩ := e
    obtain rfl := Option.some.inj e
    obtain ⟨h1, h2⟩ := keyL_inv e0
    refine ⟨by simp [h1], fun j hj => ?_⟩
    by_cases hjn : j < n
    · rw [h2 j hjn, List.getD_eq_getElem?_getD, List.getD_eq_getElem?_getD, List.getElem?_append_left (by omega)]
    · obtain rfl : j = n := by omega
      rw [ex, List.getD_eq_getElem?_getD, List.getElem?_append_right (by omega), h1, Nat.sub_self]
      rfl
def sisF (tS kg : Nat) (args : List Value) (h : AH) : Res := match args with
  | [.iface t (.slice (some ⟨b, o, none⟩) n c), .func (.func g) ⟨[]⟩ ⟨[.pointer (some ⟨pb, po, none⟩)]⟩] =>
    cond (Nat.beq g kg && (Nat.beq t tS && Nat.ble n 1000000)) (match h.ldS pb po with
      | some (some ⟨b2, o2, none⟩, n2, c2) => cond (Nat.beq b2 b && (Nat.beq o2 o && Nat.beq n2 n)) ((keyL h b o n).bind fun l => some (.bool (sisB (fun k => sltB (l.getD (k + 1) ⟨#[]⟩) (l.getD k ⟨#[]⟩)) n), h)) none
      | _ => none) none
  | _ => none
theorem below_drewN2 {B : Nat} {a w : World} (h : Below B a w) (q : Nat) : Below B a (w.drewN q) := ⟨h.os, h.tape, h.output, h.size, h.block⟩
theorem below_good {φ : Emb} {h : AH} {w w' : World} (hr : HRel φ h w) (hb : Below w.heap.size w w') : Good φ w h w' φ :=
  ⟨.refl _ _, ⟨hb.os, hb.tape, hb.output, hb.size, fun B hB _ => hb.block B hB⟩, hr.heap_same hb.size fun B hB => hb.block B hB⟩
theorem ldStr_w {φ : Emb} {h : AH} {w : World} (hr : HRel φ h w) {b o : Nat} {s : ByteArray} (hs : h.ldStr b o = some s) : ∃ t, φ b = some t ∧ w.cell? ⟨t.blk, t.sh + o, none⟩ = some (.string s) := by
  unfold AH.ldStr AH.ld at hs
  cases hb : h.get b with
  | none => rw [hb] at hs; simp at hs
  | some x =>
    cases x with
    | cells c op ro e =>
      rw [hb] at hs
      simp only [Option.bind_eq_some_iff] at hs
      obtain ⟨v, hv, hs⟩ := hs
      obtain ⟨t, h1, _, _, _, _, h6⟩ := hr.cells b c op ro e hb
      obtain ⟨_, v', h7, h8⟩ := h6 o v hv
      split at hs
      · obtain rfl := Option.some.inj hs
        cases h8
        exact ⟨t, h1, h7⟩
      · cases hs
    | map _ _ => rw [hb] at hs; simp at hs
    | iter _ _ _ _ => rw [hb] at hs; simp at hs
theorem ldS_w {φ : Emb} {h : AH} {w : World} (hr : HRel φ h w) {b o : Nat} {a : Option Addr} {n c : Nat} (hs : h.ldS b o = some (a, n, c)) : ∃ t v, φ b = some t ∧ w.cell? ⟨t.blk, t.sh + o, none⟩ = some v ∧ VR φ (.slice a n c) v := by
  unfold AH.ldS AH.ld at hs
  cases hb : h.get b with
  | none => rw [hb] at hs; simp at hs
  | some x =>
    cases x with
    | cells cc op ro e =>
      rw [hb] at hs
      simp only [Option.bind_eq_some_iff] at hs
      obtain ⟨v, hv, hs⟩ := hs
      obtain ⟨t, h1, _, _, _, _, h6⟩ := hr.cells b cc op ro e hb
      obtain ⟨_, v', h7, h8⟩ := h6 o v hv
      split at hs
      · simp only [Option.some.injEq, Prod.mk.injEq] at hs
        obtain ⟨rfl, rfl, rfl⟩ := hs
        exact ⟨t, v', h1, h7, h8⟩
      · cases hs
    | map _ _ => rw [hb] at hs; simp at hs
    | iter _ _ _ _ => rw [hb] at hs; simp at hs
theorem vr_fn1 {φ : Emb} {g : FuncId} {a : Addr} {v : Value} (h : VR φ (.func (.func g) ⟨[]⟩ ⟨[.pointer (some a)]⟩) v) : ∃ t, φ a.block = some t ∧ v = .func (.func g) #[] #[.pointer (some ⟨t.blk, t.sh + a.off, none⟩)] := by
  cases h with
  | @func _ _ _ as' bs' z1 z2 z3 z4 =>
    obtain rfl : as' = #[] := Array.eq_empty_of_size_eq_zero (by rw [← z1]; rfl)
    obtain ⟨bl⟩ := bs'
    match bl, z3, z4 with
    | [q], _, z4 =>
      obtain ⟨t', e1, _, e2⟩ := vr_ptr (z4 0 _ q rfl rfl)
      exact ⟨t', e1, by rw [e2]⟩
theorem sis_ok {P : Program} {FS tS kg : Nat} (hk : plainF P FS = false)
    (hless : ∀ (pb po b o n c i j : Nat) (x y : ByteArray) (W : World), W.cell? ⟨pb, po, none⟩ = some (.slice (some ⟨b, o, none⟩) n c) → W.cell? ⟨b, o + i * 3 + 1, none⟩ = some (.string x) → W.cell? ⟨b, o + j * 3 + 1, none⟩ = some (.string y) → i < n → j < n →
      Calls P kg #[.int .i64 i, .int .i64 j, .pointer (some ⟨pb, po, none⟩)] W fun e W' => e = .returned (.bool (sltB x y)) ∧ ∃ q, W' = W.drewN q)
    (hsis : ∀ (n c : Nat) (p : Option Addr) (lb : Array Value) (B : Nat → Bool) (w : World), n < 4611686018427387904 →
      (∀ W, Below w.heap.size w W → ∀ k : Nat, k + 1 < n → Calls P kg (#[.int .i64 ((k + 1 : Nat) : Int), .int .i64 (k : Int)] ++ lb) W fun e W' => e = .returned (.bool (B k)) ∧ Below w.heap.size w W') →
      Calls P FS #[.iface tS (.slice p n c), .func (.func kg) #[] lb] w fun e w' => e = .returned (.bool (sisB B n)) ∧ Below w.heap.size w w') : OvOK P (onK FS (sisF tS kg)) := by
  refine onK_ok hk fun args h r hr φ w cs hrel hvs => ?_
  unfold sisF at hr
  split at hr
  · rename_i t b o n c g pb po
    cases hq : (Nat.beq g kg && (Nat.beq t tS && Nat.ble n 1000000)) with
    | false => rw [hq] at hr; cases hr
    | true =>
    rw [hq, cond_true] at hr
    simp only [Bool.and_eq_true] at hq
    obtain ⟨q1, q2, q3⟩ := hq
    obtain rfl := Nat.eq_of_beq_eq_true q1
    obtain rfl := Nat.eq_of_beq_eq_true q2
    have hn := Nat.le_of_ble_eq_true q3
    split at hr
    · rename_i b2 o2 n2 c2 hS
      cases hq : (Nat.beq b2 b && (Nat.beq o2 o && Nat.beq n2 n)) with
      | false => rw [hq] at hr; cases hr
      | true =>
      rw [hq, cond_true] at hr
      simp only [Bool.and_eq_true] at hq
      obtain ⟨r1, r2, r3⟩ := hq
      obtain rfl := Nat.eq_of_beq_eq_true r1
      obtain rfl := Nat.eq_of_beq_eq_true r2
      obtain rfl := Nat.eq_of_beq_eq_true r3
      simp only [Option.bind_eq_some_iff] at hr
      obtain ⟨l, hl, hr⟩ := hr
      obtain rfl := Option.some.inj hr
      obtain ⟨hll, hlk⟩ := keyL_inv hl
      cases hvs with | cons h1 hvs => cases hvs with | cons h2 hvs =>
      cases hvs
      obtain ⟨s', rfl, h1s⟩ := vr_iface h1
      obtain ⟨tp, v0, hφp, hcp, hvp⟩ := ldS_w hrel hS
      -- the callback
      obtain ⟨tp', e0, rfl⟩ := vr_fn1 h2
      have e0' : φ pb = some tp' := e0
      rw [hφp] at e0'
      obtain rfl := Option.some.inj e0'
      -- the slice
      obtain ⟨p', n', c', rfl, hn', hp'⟩ : ∃ p' n' c', s' = .slice p' n' c' ∧ n' = n2 ∧ (0 < n2 → ∃ t, φ b2 = some t ∧ p' = some ⟨t.blk, t.sh + o2, none⟩) := by
        rcases vr_slice h1s with ⟨t', a', z1, z2, z3, z4, z5, rfl⟩ | ⟨t', ra, c', z1, z2, rfl, z3⟩
        · exact ⟨_, _, _, rfl, z4.symm, fun h => by omega⟩
        · refine ⟨_, _, _, rfl, rfl, fun h => ⟨t', z1, ?_⟩⟩
          have : ra = t'.sh + o2 := by
            rcases z3 with ⟨_, _, h' | ⟨h', _⟩⟩ | ⟨_, _, _, h' | ⟨h', _⟩⟩ <;> first | exact h' | omega
          rw [this]
      subst hn'
      refine (hsis n' c' p' _ (fun k => sltB (l.getD (k + 1) ⟨#[]⟩) (l.getD k ⟨#[]⟩)) w (by omega) fun W hW k hk1 => ?_).mono ?_
      · obtain ⟨tb, hφb, hpb⟩ := hp' (by omega)
        obtain ⟨ta, e1, e2⟩ := ldStr_w hrel (hlk (k + 1) hk1)
        obtain ⟨ta', e3, e4⟩ := ldStr_w hrel (hlk k (by omega))
        rw [hφb] at e1 e3
        obtain rfl := Option.some.inj e1
        obtain rfl := Option.some.inj e3
        have hcap : ∃ c3, v0 = .slice (some ⟨tb.blk, tb.sh + o2, none⟩) n' c3 := by
          rcases vr_slice hvp with ⟨t', a', z1, z2, z3, z4, z5, rfl⟩ | ⟨t', ra, c3, z1, z2, rfl, z3⟩
          · omega
          · rw [hφb] at z1
            obtain rfl := Option.some.inj z1
            have : ra = tb.sh + o2 := by
              rcases z3 with ⟨_, _, h' | ⟨h', _⟩⟩ | ⟨_, _, _, h' | ⟨h', _⟩⟩ <;> first | exact h' | omega
            exact ⟨c3, by rw [this]⟩
        obtain ⟨c3, rfl⟩ := hcap
        have kept : ∀ a : Addr, a.block < w.heap.size → W.cell? a = w.cell? a := fun a ha => by simp [World.cell?, hW.block a.block ha]
        have hbl := hrel.blkLt _ _ hφb
        have hpl := hrel.blkLt _ _ hφp
        have hcall := hless tp.blk (tp.sh + po) tb.blk (tb.sh + o2) n' c3 (k + 1) k _ _ W (by rw [kept _ hpl]; exact hcp) (by rw [kept _ hbl]; rw [show tb.sh + o2 + (k + 1) * 3 + 1 = tb.sh + (o2 + (k + 1) * 3 + 1) by omega]; exact e2) (by rw [kept _ hbl]; rw [show tb.sh + o2 + k * 3 + 1 = tb.sh + (o2 + k * 3 + 1) by omega]; exact e4) hk1 (by omega)
        refine hcall.mono ?_
        rintro e W' ⟨rfl, q, rfl⟩
        exact ⟨rfl, below_drewN2 hW q⟩
      · rintro e w' ⟨rfl, hb⟩
        exact ⟨φ, _, rfl, below_good hrel hb, .bool _⟩
    · cases hr
  · cases hr
end Go.Lg
