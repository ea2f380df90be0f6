/- slices.Insert over elements of any size: what its operations do in the world. -/
import Derived.Test.YtciiigaagggefaaEv11
import Derived.Laws.IdiomCopy
import Derived.Test.YtciiigaagggefaaEv38
import Derived.Shelf.Small.Strs
set_option linter.unusedVariables false
set_option linter.unusedSimpArgs false
namespace Go.Lg
set_option linter.unusedVariables false
open Go
variable {P : Program}
theorem run_copy_k (w : World) (dT sT ty elem : TypeId) (k b o dLen dCap : Nat) (a : Addr) (sLen sCap : Nat) (cs : List Value)
    (hu : P.underlying dT = some (.slice elem)) (hs : (P.info? elem).map (·.size) = some k) (hn : cs.length = Nat.min sLen dLen * k)
    (hsrc : ∀ j v, cs[j]? = some v → w.cell? (a.add j) = some v) (hc : ∀ j, j < cs.length → (w.cell? ⟨b, o + j, none⟩).isSome = true) (hf : ∀ j, j < cs.length → w.frozen? ⟨b, o + j, none⟩ = false) (h1 : ∀ v ∈ cs, v.oneCell' = true) :
    (Builtin.copy_ #[dT, sT] ty #[.slice (some ⟨b, o, none⟩) dLen dCap, .slice (some a) sLen sCap]).run P w = .ok (goInt (Nat.min sLen dLen)) (w.setCells b o cs) := by
  have hl := run_loadCells_list (P := P) w a cs hsrc
  have hst := run_storeCells_cells (P := P) b o cs 0 w (by simpa using hc) (by simpa using hf) h1
  cases hq : P.info? elem with
  | none => simp [hq] at hs
  | some i =>
    have hi : i.size = k := by simpa [hq] using hs
    simp [Builtin.copy_, run_underlying hu, Builtin.lenOf, Builtin.firstCells, sizeOf, typeInfo, hq, hi, ← hn, hl, hst]
end Go.Lg

namespace Go.Lg
open Go
set_option linter.unusedVariables false
def compareF (args : List Value) (h : AH) : Res := match args with
  | [.string s, .string t] => some (.int .i64 (Lib.compareBytes s.data.toList t.data.toList), h)
  | _ => none
def onK (k : Nat) (g : List Value → AH → Res) : Over := fun f args h => cond (Nat.beq f k) (g args h) none
theorem onK_ok {P : Program} {k : Nat} {g : List Value → AH → Res} (hk : plainF P k = false)
    (hg : ∀ args h r, g args h = some r → ∀ (φ : Emb) (w : World) (cs : List Value), HRel φ h w → VRs φ args cs → Calls P k cs.toArray w fun e w' => ∃ φ' c, e = .returned c ∧ Good φ w r.2 w' φ' ∧ VR φ' r.1 c) : OvOK P (onK k g) := by
  intro f args h r hr
  unfold onK at hr
  cases hf : Nat.beq f k with
  | false => rw [hf] at hr; cases hr
  | true =>
    obtain rfl := Nat.eq_of_beq_eq_true hf
    rw [hf] at hr
    intro φ w cs hrel hvs
    exact ⟨hg args h r hr φ w cs hrel hvs, fun hp => by rw [hk] at hp; cases hp⟩
theorem compare_ok {P : Program} {k : Nat} (hk : plainF P k = false) (hL : ∃ ρ, Proofs.Lays.n106 P ρ ∧ ρ.f 106 = k) : OvOK P (onK k compareF) := by
  obtain ⟨ρ, L, rfl⟩ := hL
  refine onK_ok hk fun args h r hr φ w cs hrel hvs => ?_
  unfold compareF at hr
  split at hr
  · rename_i s t
    obtain rfl := Option.some.inj hr
    cases hvs with
    | cons h1 h2 => cases h2 with
      | cons h3 h4 =>
        cases h4
        cases h1
        cases h3
        refine (Proofs.Any.strings_Compare L s t w).mono ?_
        rintro e w' ⟨rfl, rfl⟩
        exact ⟨φ, _, rfl, .refl hrel, .int _ _⟩
  · cases hr
end Go.Lg

namespace Go.Lg
set_option linter.unusedVariables false
set_option linter.unusedSimpArgs false
open Go
theorem setCell_comm (w : World) (b o o' : Nat) (v u : Value) (hne : o ≠ o') : (w.setCell ⟨b, o, none⟩ v).setCell ⟨b, o', none⟩ u = (w.setCell ⟨b, o', none⟩ u).setCell ⟨b, o, none⟩ v := by
  unfold World.setCell
  simp only
  congr 1
  apply Array.ext_getElem?
  intro j
  simp only [Array.getElem?_modify]
  by_cases hj : b = j
  · subst hj
    simp only [if_true]
    cases w.heap[b]? with
    | none => rfl
    | some x =>
      cases x <;> simp [Array.setIfInBounds_comm _ _ hne]
  · simp only [if_neg hj]
theorem setCells_comm1 (b : Nat) : ∀ (vs : List Value) (o : Nat) (w : World) (o' : Nat) (u : Value), (o' < o ∨ o + vs.length ≤ o') → (w.setCells b o vs).setCell ⟨b, o', none⟩ u = (w.setCell ⟨b, o', none⟩ u).setCells b o vs
  | [], _, _, _, _, _ => rfl
  | v :: r, o, w, o', u, h => by
    simp only [List.length_cons] at h
    rw [World.setCells, World.setCells, setCells_comm1 b r (o + 1) _ o' u (by omega), setCell_comm w b o o' v u (by omega)]
theorem setCells_join (b : Nat) : ∀ (xs bs : List Value) (o : Nat) (w : World), (w.setCells b (o + xs.length) bs).setCells b o xs = w.setCells b o (xs ++ bs)
  | [], bs, o, w => rfl
  | a :: xs, bs, o, w => by
    rw [World.setCells, setCells_comm1 b bs _ w o a (.inl (by simp only [List.length_cons]; omega)), List.cons_append, World.setCells, List.length_cons, show o + (xs.length + 1) = o + 1 + xs.length by omega]
    exact setCells_join b xs bs (o + 1) _

/-- slices.Insert of one element, with room or at the end -/
def insF (P : Program) (tS k : Nat) (args : List Value) (h : AH) : Res := match args with
  | [.slice base n c, .int .i64 i, .slice (some va) m vc] =>
    cond (Nat.beq m 1) (
    cond (decide (i = (n : Int)))
      (cond (Nat.ble n c && Nat.ble c opn) (aapp P tS tS (.slice base n c) (.slice (some va) 1 vc) h) none)
      (match base with
        | none => none
        | some a => cond (decide (0 ≤ i) && decide (i < (n : Int)) && Nat.beq c opn && Nat.ble vc 1000000)
          (match h.get a.block, h.get va.block with
            | some (.cells cc true false esz), some (.cells vcc vop false vesz) => cond (Nat.beq esz k && Nat.blt 0 k && (Nat.ble (a.off + (n + 1) * k) cc.length && (!Nat.beq a.block va.block && Nat.ble n 1000000000)))
              ((ldRow h va.block va.off k).bind fun xs => (ldRow h a.block a.off (n * k)).bind fun cs =>
                (h.st a.block (a.off + i.toNat * k) (xs ++ cs.drop (i.toNat * k))).bind fun h' => some (.slice (some a) (n + 1) opn, h')) none
            | _, _ => none) none)) none
  | _ => none

theorem ins_ok {P : Program} {FI : FuncId} {tS k : Nat} (hk : plainF P FI = false)
    (hlast : ∀ (base : Option Addr) (n c vc : Nat) (va : Addr) (r : Value) (w w' : World), n ≤ c → (∀ ty, (Builtin.append_ #[tS, tS] ty #[.slice base n c, .slice (some va) 1 vc]).run P w = .ok r w') → (base = none → n = 0) →
      Calls P FI #[.slice base n c, .int .i64 n, .slice (some va) 1 vc] w fun e w'' => e = .returned r ∧ w'' = w')
    (hshift : ∀ (b off n c i vb voff vc : Nat) (cs vs : List Value) (w : World), i < n → n + 1 ≤ c → n ≤ 1000000000 → vb ≠ b → cs.length = n * k → vs.length = k →
      (∀ (j : Nat) (v : Value), cs[j]? = some v → w.cell? ⟨b, off + j, none⟩ = some v) → (∀ j, j < (n + 1) * k → (w.cell? ⟨b, off + j, none⟩).isSome = true) → (∀ j, j < (n + 1) * k → w.frozen? ⟨b, off + j, none⟩ = false) →
      (∀ (j : Nat) (v : Value), vs[j]? = some v → w.cell? ⟨vb, voff + j, none⟩ = some v) → (∀ v ∈ cs, v.oneCell' = true) → (∀ v ∈ vs, v.oneCell' = true) →
      ∀ (tA tB : TypeId) (kA kB : Nat), w.shape? vb = some (tA, kA) → w.shape? b = some (tB, kB) → kB ≠ 0 → w.frozen? ⟨vb, voff, none⟩ = false → w.frozen? ⟨vb, kA, none⟩ = false →
      Calls P FI #[.slice (some ⟨b, off, none⟩) n c, .int .i64 i, .slice (some ⟨vb, voff, none⟩) 1 vc] w fun e w' =>
        e = .returned (.slice (some ⟨b, off, none⟩) (n + 1) c) ∧ w' = (w.drew.setCells b (off + (i + 1) * k) (cs.drop (i * k))).setCells b (off + i * k) vs) :
    OvOK P (onK FI (insF P tS k)) := by
  refine onK_ok hk fun args h r hr φ w cs hrel hvs => ?_
  unfold insF at hr
  split at hr
  · rename_i base n c i va m vc
    cases hm : Nat.beq m 1 with
    | false => rw [hm, cond_false] at hr; cases hr
    | true =>
    rw [hm, cond_true] at hr
    obtain rfl := Nat.eq_of_beq_eq_true hm
    cases hvs with | cons h1 hvs => cases hvs with | cons h2 hvs => cases hvs with | cons h3 hvs =>
    cases hvs
    have h2' := h2
    cases h2
    by_cases hi : i = (n : Int)
    · rw [decide_eq_true hi, cond_true] at hr
      subst hi
      cases hc : (Nat.ble n c && Nat.ble c opn) with
      | false => rw [hc] at hr; cases hr
      | true =>
      rw [hc, cond_true] at hr
      rw [Bool.and_eq_true] at hc
      have hnc := Nat.le_of_ble_eq_true hc.1
      obtain ⟨φ', v, h', cc, w', hrun, hgood, hv, hK⟩ := aappend_sound (P := P) (ty := 0) hrel h1 h3 hr
      simp only [Option.some.injEq] at hK
      subst hK
      have hty : ∀ ty args, Builtin.append_ #[tS, tS] ty args = Builtin.append_ #[tS, tS] 0 args := fun _ _ => rfl
      rcases vr_slice h3 with ⟨t', a', _, _, _, h0, _⟩ | ⟨t3, r3, c3, hφ3, hsp3, rfl, _⟩
      · omega
      · cases base with
        | none =>
          obtain ⟨rfl, rfl, rfl⟩ := vr_sliceN h1
          exact (hlast none 0 0 c3 _ cc w w' (Nat.le_refl _) (fun ty => by rw [hty]; exact hrun) (fun _ => rfl)).mono fun e w'' hh => ⟨φ', cc, hh.1, by rw [hh.2]; exact hgood, hv⟩
        | some ad =>
          rcases vr_slice h1 with ⟨t', a', _, _, _, rfl, rfl, rfl⟩ | ⟨t1, r1, c1, _, _, rfl, hcase⟩
          · exact (hlast (some a') 0 0 c3 _ cc w w' (Nat.le_refl _) (fun ty => by rw [hty]; exact hrun) (fun _ => rfl)).mono fun e w'' hh => ⟨φ', cc, hh.1, by rw [hh.2]; exact hgood, hv⟩
          · have hn1 : n ≤ c1 := by
              rcases hcase with ⟨_, rfl, _⟩ | ⟨_, hle, _⟩
              · exact hnc
              · exact hle
            exact (hlast _ n c1 c3 _ cc w w' hn1 (fun ty => by rw [hty]; exact hrun) (fun e => by cases e)).mono fun e w'' hh => ⟨φ', cc, hh.1, by rw [hh.2]; exact hgood, hv⟩
    · rw [decide_eq_false hi, cond_false] at hr
      split at hr
      · cases hr
      rename_i a
      cases hc : (decide (0 ≤ i) && decide (i < (n : Int)) && Nat.beq c opn && Nat.ble vc 1000000) with
      | false => rw [hc] at hr; cases hr
      | true =>
      rw [hc, cond_true] at hr
      simp only [Bool.and_eq_true, decide_eq_true_eq] at hc
      obtain ⟨⟨⟨hi0, hin⟩, hco⟩, hvc⟩ := hc
      obtain rfl := Nat.eq_of_beq_eq_true hco
      split at hr
      · rename_i cc esz vcc vop vesz hb hvb
        cases hq : (Nat.beq esz k && Nat.blt 0 k && (Nat.ble (a.off + (n + 1) * k) cc.length && (!Nat.beq a.block va.block && Nat.ble n 1000000000))) with
        | false => rw [hq] at hr; cases hr
        | true =>
        rw [hq, cond_true] at hr
        simp only [Bool.and_eq_true] at hq
        obtain ⟨⟨hek, hkp⟩, hroom, hne, hn9⟩ := hq
        obtain rfl := Nat.eq_of_beq_eq_true hek
        have hkp := Nat.le_of_ble_eq_true hkp
        have hroom := Nat.le_of_ble_eq_true hroom
        have hne : a.block ≠ va.block := fun e => by rw [e, Nat.beq_refl] at hne; cases hne
        simp only [Option.bind_eq_some_iff] at hr
        obtain ⟨xs, hxs, ccs, hccs, h', hst, hr⟩ := hr
        obtain rfl := Option.some.inj hr
        obtain ⟨I, rfl⟩ : ∃ I : Nat, i = I := ⟨i.toNat, by omega⟩
        simp only [Int.toNat_natCast] at hst
        have hIn : I < n := by omega
        obtain ⟨t, hφ, hro, hesz, htot, hrow, hcells⟩ := hrel.cells _ _ _ _ _ hb
        obtain ⟨rc, el, hg, hrc⟩ := hrow rfl
        obtain ⟨tv, hφv, hrov, heszv, htotv, hrowv, hcellsv⟩ := hrel.cells _ _ _ _ _ hvb
        obtain ⟨rcv, elv, hgv, hrcv⟩ := hrowv rfl
        have hbne : tv.blk ≠ t.blk := fun e => by
          rcases hrel.inj _ _ _ _ _ _ hb hvb hφ hφv e.symm with h | ⟨h, _⟩
          · exact hne h
          · rw [hro] at h; cases h
        obtain ⟨xcs, x1, x2, x3, x4⟩ := ldRow_rel hrel hφv hxs
        obtain ⟨dcs, d1, d2, d3, d4⟩ := ldRow_rel hrel hφ hccs
        have one : ∀ {l m : List Value}, VRs φ l m → l.all cellOk = true → ∀ v ∈ m, v.oneCell' = true := by
          intro l m hlm hal v hv
          obtain ⟨j, hj, rfl⟩ := List.mem_iff_getElem.1 hv
          have hj' : j < l.length := by rw [hlm.length]; exact hj
          exact (hlm.get2 j l[j] m[j] (by simp) (by simp)).oneCell (by rw [List.all_eq_true] at hal; exact hal _ (List.getElem_mem hj'))
        rcases vr_slice h3 with ⟨t', a', _, _, _, h0, _⟩ | ⟨t3, r3, c3, hφ3, hsp3, rfl, hc3⟩
        · omega
        rw [hφv] at hφ3
        obtain rfl := Option.some.inj hφ3
        have hr3 : r3 = tv.sh + va.off := by
          rcases hc3 with ⟨_, _, h | ⟨h, _⟩⟩ | ⟨_, _, _, h | ⟨h, _⟩⟩ <;> first | exact h | omega
        subst hr3
        rcases vr_slice h1 with ⟨t', a', _, _, _, _, h0, _⟩ | ⟨t1, r1, c1, hφ1, hsp1, rfl, hcase⟩
        · cases h0
        rw [hφ] at hφ1
        obtain rfl := Option.some.inj hφ1
        rcases hcase with ⟨hlt, _⟩ | ⟨_, hle, htc, hra⟩
        · exact absurd hlt (Nat.lt_irrefl _)
        have hc1 : n + 1 ≤ c1 := by
          rcases Nat.lt_or_ge n c1 with h | h
          · exact h
          · exfalso
            have : c1 * t.esz ≤ n * t.esz := Nat.mul_le_mul_right _ h
            have e : (n + 1) * esz = n * esz + esz := by rw [Nat.add_mul, Nat.one_mul]
            rw [hesz] at this htc
            omega
        have hr1 : r1 = t.sh + a.off := by
          rcases hra with h | ⟨h, _⟩
          · exact h
          · omega
        subst hr1
        have hcell : ∀ j, w.cell? ⟨t.blk, j, none⟩ = rc[j]? := fun j => cell_of_row w t.blk j rc el (0, 0) hg
        have hfr : ∀ j, w.frozen? ⟨t.blk, j, none⟩ = false := fun j => frozen_of_row w t.blk j rc el hg
        have hfrv : ∀ j, w.frozen? ⟨tv.blk, j, none⟩ = false := fun j => frozen_of_row w tv.blk j rcv elv hgv
        have hsp : ∀ j, j < (n + 1) * esz → (w.cell? ⟨t.blk, t.sh + a.off + j, none⟩).isSome = true := fun j hj => by
          rw [hcell, Array.getElem?_eq_getElem (by omega)]; rfl
        have hdl : dcs.length = n * esz := by rw [← d1.length, d2]
        have hxl : xcs.length = esz := by rw [← x1.length, x2]
        have hI1 : (I + 1) * esz = I * esz + esz := by rw [Nat.add_mul, Nat.one_mul]
        have hn1 : (n + 1) * esz = n * esz + esz := by rw [Nat.add_mul, Nat.one_mul]
        have hIl : I * esz ≤ n * esz := Nat.mul_le_mul_right _ (by omega)
        have hwalk := hshift t.blk (t.sh + a.off) n c1 I tv.blk (tv.sh + va.off) c3 dcs xcs w hIn hc1 (Nat.le_of_ble_eq_true hn9) hbne hdl hxl d3 hsp (fun j _ => hfr _) x3 (one d1 d4) (one x1 x4)
          elv el rcv.size rc.size (by simp [World.shape?, hgv]) (by simp [World.shape?, hg]) (by omega) (hfrv _) (hfrv _)
        obtain ⟨w', s1, s2⟩ := st_sound (P := P) hrel.drew hφ (x1.append (d1.drop (I * esz))) (by rw [List.all_append, x4, Bool.true_and, List.all_eq_true]; intro v hv; rw [List.all_eq_true] at d4; exact d4 v (List.mem_of_mem_drop hv)) hst
        have hws : (storeCells ⟨t.blk, t.sh + (a.off + I * esz), none⟩ (xcs ++ dcs.drop (I * esz))).run P w.drew = .ok () (w.drew.setCells t.blk (t.sh + (a.off + I * esz)) (xcs ++ dcs.drop (I * esz))) := by
          have hL : (xcs ++ dcs.drop (I * esz)).length + I * esz = (n + 1) * esz := by
            rw [List.length_append, List.length_drop, hdl, hxl]; omega
          have := run_storeCells_cells (P := P) t.blk (t.sh + (a.off + I * esz)) (xcs ++ dcs.drop (I * esz)) 0 w.drew (fun j hj => ?_) (fun j _ => hfr _) (fun v hv => ?_)
          · simpa using this
          · have := hsp (I * esz + j) (by omega)
            simpa [Nat.add_assoc] using this
          · rcases List.mem_append.1 hv with h | h
            · exact one x1 x4 v h
            · exact one d1 d4 v (List.mem_of_mem_drop h)
        rw [hws] at s1
        have hw' : w' = w.drew.setCells t.blk (t.sh + (a.off + I * esz)) (xcs ++ dcs.drop (I * esz)) := by
          simp only [Result.ok.injEq, true_and] at s1; exact s1.symm
        refine hwalk.mono ?_
        rintro e w'' ⟨rfl, rfl⟩
        refine ⟨φ, _, rfl, ?_, ?_⟩
        · have hj := setCells_join t.blk xcs (dcs.drop (I * esz)) (t.sh + (a.off + I * esz)) w.drew
          rw [hxl] at hj
          rw [show t.sh + a.off + (I + 1) * esz = t.sh + (a.off + I * esz) + esz by omega, show t.sh + a.off + I * esz = t.sh + (a.off + I * esz) by omega, hj, ← hw']
          exact (Good.drew hrel).trans s2
        · have hfin := mk_sliceO (o := a.off) (ra := t.sh + a.off) (n := n + 1) hφ hc1 htc (.inl rfl)
          have hae : a = ⟨a.block, a.off, none⟩ := by rw [← hsp1]
          rw [← hae] at hfin
          exact hfin
      · cases hr
  · cases hr
end Go.Lg
