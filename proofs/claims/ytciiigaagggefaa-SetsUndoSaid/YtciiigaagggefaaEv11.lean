/- Soundness of the evaluator. Part 11: appends, concluded. -/
import Derived.Test.YtciiigaagggefaaEv10
namespace Go.Lg
open Go

/-- a block's cells come under a new number, in the same row of the world -/
theorem move_sound {φ : Emb} {h : AH} {w w' : World} (hr : HRel φ h w) {b o m : Nat} {t : Tgt} (ht : φ b = some t) {c news : List Value} {cs : List Value} {esz : Nat} (hb : h.get b = some (.cells c true false esz))
    (hv : VRs φ news cs) (hok : news.all cellOk = true) (hom : o + m ≤ c.length) {rc : Array Value} {el : TypeId} (hg : w.heap[t.blk]? = some (.cells rc el (0, 0))) (htot : t.sh + o + m + news.length ≤ t.tot) (hrc : t.tot ≤ rc.size)
    (hg' : w'.heap[t.blk]? = some (.cells (AH.setL rc.toList (t.sh + o + m) cs).toArray el (0, 0))) (hother : ∀ k, k ≠ t.blk → w'.heap[k]? = w.heap[k]?)
    (hos : w'.os = w.os) (htape : w'.tape = w.tape) (hout : w'.output = w.output) (hsize : w'.heap.size = w.heap.size) :
    Good φ w ((h.set b none).push (.cells ((c.drop o).take m ++ news) true false esz)) w' (grow φ h.n ⟨t.blk, t.sh + o, t.tot, esz, false⟩) := by
  have hsub := grow_sub hr ⟨t.blk, t.sh + o, t.tot, esz, false⟩
  obtain ⟨t0, h1, hro, hesz, htot0, _, hcells⟩ := hr.cells b c true false esz hb
  rw [ht] at h1
  obtain rfl := Option.some.inj h1
  have hlen := hv.length
  have hblt := hr.gets b _ hb
  have hn : ((h.set b none).push (.cells ((c.drop o).take m ++ news) true false esz)).n = h.n + 1 := rfl
  have hget : ∀ d, ((h.set b none).push (.cells ((c.drop o).take m ++ news) true false esz)).get d = if d = h.n then some (.cells ((c.drop o).take m ++ news) true false esz) else if d = b then none else h.get d := by
    intro d
    rw [AH.get_push, AH.get_set]; rfl
  have hcother : ∀ a : Addr, a.block ≠ t.blk → w'.cell? a = w.cell? a := fun a ha => by simp [World.cell?, hother a.block ha]
  refine ⟨⟨hsub, fun d u hd => ?_⟩, ⟨hos, htape, hout, by omega, fun B hB hro' => ?_⟩, ?_⟩
  · simp only [grow] at hd
    split at hd
    · obtain rfl := Option.some.inj hd
      exact .inr (.inr ⟨b, t, ht, rfl, hro⟩)
    · exact .inl hd
  · by_cases e : B = t.blk
    · have := hro' b t ht e.symm
      rw [hro] at this; cases this
    · exact hother B e
  · have hne : ∀ d x u, h.get d = some x → d ≠ b → φ d = some u → u.blk ≠ t.blk := fun d x u hx hdb hu he => by
      rcases hr.inj d b x _ u t hx hb hu ht he with h | ⟨_, h⟩
      · exact hdb h
      · rw [hro] at h; cases h
    refine ⟨fun d u hd => ?_, fun d u hd => ?_, ?_, ?_, ?_, ?_, ?_⟩
    · rw [hn]
      simp only [grow] at hd
      split at hd
      · omega
      · have := hr.lt d u hd; omega
    · rw [hsize]
      simp only [grow] at hd
      split at hd
      · obtain rfl := Option.some.inj hd; exact hr.blkLt b t ht
      · exact hr.blkLt d u hd
    · intro d c' op' ro' esz' hd
      rw [hget] at hd
      split at hd
      · rename_i e
        subst e
        simp only [Option.some.injEq, Blk.cells.injEq] at hd
        obtain ⟨rfl, rfl, rfl, rfl⟩ := hd
        have hl1 : ((c.drop o).take m).length = m := by simp; omega
        refine ⟨_, grow_new φ h.n _, rfl, rfl, by simp only [List.length_append, hl1]; omega, fun _ => ⟨_, el, hg', by simp [setL_length]; exact hrc⟩, fun k v hk => ?_⟩
        rw [cell_of_row w' t.blk _ _ el (0, 0) hg']
        simp only [List.getElem?_toArray]
        rw [setL_get _ _ _ _ (by simp; omega)]
        by_cases hkm : k < m
        · rw [List.getElem?_append_left (by rw [hl1]; exact hkm)] at hk
          simp only [List.getElem?_take, List.getElem?_drop, if_pos hkm] at hk
          obtain ⟨g1, v', g2, g3⟩ := hcells (o + k) v hk
          rw [cell_of_row w t.blk _ _ el (0, 0) hg] at g2
          rw [if_neg (by omega)]
          refine ⟨g1, v', ?_, g3.mono hsub⟩
          rw [← g2, Array.getElem?_toList]; congr 1; omega
        · rw [List.getElem?_append_right (by rw [hl1]; omega), hl1] at hk
          have hk2 : k - m < news.length := by
            rcases Nat.lt_or_ge (k - m) news.length with h' | h'
            · exact h'
            · rw [List.getElem?_eq_none h'] at hk; cases hk
          obtain ⟨v', g2, g3⟩ := hv.get _ _ hk
          rw [if_pos (by omega)]
          refine ⟨by rw [List.all_eq_true] at hok; exact hok _ (List.mem_of_getElem? hk), v', ?_, g3.mono hsub⟩
          rw [← g2]; congr 1; omega
      · split at hd
        · cases hd
        · rename_i hdb
          obtain ⟨t', g1, g2, g3, g4, g5, g6⟩ := hr.cells d c' op' ro' esz' hd
          have := hne d _ t' hd hdb g1
          refine ⟨t', hsub _ _ g1, g2, g3, g4, fun hf => by rw [hother _ this]; exact g5 hf, fun k v hk => ?_⟩
          obtain ⟨e1, v', e2, e3⟩ := g6 k v hk
          exact ⟨e1, v', by rw [hcother _ this]; exact e2, e3.mono hsub⟩
    · intro d es clk hd
      rw [hget] at hd
      split at hd
      · cases hd
      · split at hd
        · cases hd
        · rename_i hdb
          obtain ⟨t', es', g1, g2, g3, g4⟩ := hr.maps d es clk hd
          have := hne d _ t' hd hdb g1
          exact ⟨t', es', hsub _ _ g1, g2, by rw [hother _ this]; exact g3, g4.len, fun i e e' h1 h2 => let ⟨p, q, r, s⟩ := g4.at_ i e e' h1 h2; ⟨p, q, r, s.mono hsub⟩⟩
    · intro d1 d2 x x' t1 t2 hx hx' h1 h2 he
      rw [hget] at hx hx'
      simp only [grow] at h1 h2
      by_cases e1 : d1 = h.n
      · by_cases e2 : d2 = h.n
        · exact .inl (e1.trans e2.symm)
        · rw [if_pos e1] at h1
          obtain rfl := Option.some.inj h1
          rw [if_neg e2] at h2 hx'
          split at hx'
          · cases hx'
          · rename_i hdb
            exact absurd he.symm (hne d2 _ t2 hx' hdb h2)
      · rw [if_neg e1] at h1 hx
        split at hx
        · cases hx
        · rename_i hdb
          by_cases e2 : d2 = h.n
          · rw [if_pos e2] at h2
            obtain rfl := Option.some.inj h2
            exact absurd he (hne d1 _ t1 hx hdb h1)
          · rw [if_neg e2] at h2 hx'
            split at hx'
            · cases hx'
            · exact hr.inj d1 d2 _ _ t1 t2 hx hx' h1 h2 he
    · intro d x hd
      rw [hget] at hd
      rw [hn]
      split at hd
      · omega
      · split at hd
        · cases hd
        · have := hr.gets d x hd; omega
    · intro d c' esz' t' hd ht'
      rw [hget] at hd
      simp only [grow] at ht'
      split at hd
      · simp only [Option.some.injEq, Blk.cells.injEq] at hd
        cases hd.2.1
      · rename_i hdn
        rw [if_neg hdn] at ht'
        split at hd
        · cases hd
        · exact hr.sh0 d _ _ _ hd ht'

theorem cap_gt {w : World} {need old : Nat} {e : TypeId} : need ≤ grownCap w need old e := grownCap_ge w need old e

section
variable {P : Program} {φ : Emb} {h : AH} {w : World} {t tx ty e : TypeId} {K : Value → AH → Res} {r : Value × AH}

/-- the result of an append that made a new row -/
theorem append_new_good {olds cs old l : List Value} {i : TypeInfo} {z : Value} {sLen n cap : Nat} (hz : z.cells.size = i.size) (h1 : VRs φ old olds) (h2 : VRs φ l cs) (k1 : old.all cellOk = true) (k2 : l.all cellOk = true)
    (l1 : old.length = sLen * i.size) (l2 : l.length = n * i.size) (h' : AH) (hh : HRel φ h' w ∧ h'.n = h.n) (hcap : sLen + n ≤ cap) :
    Good φ w (h'.push (.cells (old ++ l) true false i.size)) (w.drew.alloc (.cells (olds ++ cs ++ (Builtin.zeroCells z.cells (cap - (sLen + n))).toList).toArray e))
        (grow φ h.n ⟨w.heap.size, 0, (olds ++ cs).length + (Builtin.zeroCells z.cells (cap - (sLen + n))).toList.length, i.size, false⟩) ∧
      VR (grow φ h.n ⟨w.heap.size, 0, (olds ++ cs).length + (Builtin.zeroCells z.cells (cap - (sLen + n))).toList.length, i.size, false⟩) (.slice (some ⟨h.n, 0, none⟩) (sLen + n) opn)
        (.slice (some ⟨w.heap.size, 0, none⟩) (sLen + n) cap) := by
  obtain ⟨hr', hn⟩ := hh
  have hg := push_sound (φ := φ) hr'.drew (op := true) (esz := i.size) (el := e) (Builtin.zeroCells z.cells (cap - (sLen + n))).toList (h1.append h2) (by rw [List.all_append, k1, k2]; rfl)
  rw [hn] at hg
  refine ⟨(Good.drew hr').trans hg, ?_⟩
  have := @VR.sliceO (grow φ h.n ⟨w.heap.size, 0, (olds ++ cs).length + (Builtin.zeroCells z.cells (cap - (sLen + n))).toList.length, i.size, false⟩) h.n 0 (sLen + n) cap _ (grow_new φ h.n _) (by
    simp only [List.length_append, zeroCells_toList, repL_length, Array.length_toList, hz, ← h1.length, ← h2.length, l1, l2, Nat.zero_add]
    rw [← Nat.add_mul, ← Nat.add_mul, Nat.add_sub_cancel' hcap]) hcap
  simpa using this

theorem aappend_sound (hr : HRel φ h w) {s x s' x' : Value} (hs : VR φ s s') (hx : VR φ x x') (hk : aappend P t tx s x h K = some r) :
    ∃ φ' v h' c w', (Builtin.append_ #[t, tx] ty #[s', x']).run P w = .ok c w' ∧ Good φ w h' w' φ' ∧ VR φ' v c ∧ K v h' = some r := by
  unfold aappend at hk
  split at hk
  · rename_i e dx hd hdx
    split at hk
    · cases hk
    · rename_i hni
      split at hk
      · rename_i i base sLen sCap hi
        cases hs0 : Nat.beq i.size 0 with
        | true => rw [hs0, cond_true] at hk; cases hk
        | false =>
        rw [hs0, cond_false] at hk
        have hpos : 0 < i.size := by
          rcases Nat.eq_zero_or_pos i.size with h0 | h0
          · rw [h0] at hs0; cases hs0
          · exact h0
        simp only [Option.bind_eq_some_iff] at hk
        obtain ⟨zc, hzc, ⟨n, l⟩, hnl, hk⟩ := hk
        obtain ⟨i', z, hi', hz, _, hzs, _⟩ := zeroCellsOf_inv hzc
        rw [hi] at hi'
        obtain rfl := Option.some.inj hi'
        simp only at hk
        cases hrm : (roomOk (sLen + n) i.bytes && Nat.beq l.length (n * i.size)) with
        | false => rw [hrm, cond_false] at hk; cases hk
        | true =>
        rw [hrm, cond_true] at hk
        simp only [roomOk, Bool.and_eq_true] at hrm
        have hb1 := Nat.le_of_ble_eq_true hrm.1.1
        have hb2 := Nat.le_of_ble_eq_true hrm.1.2
        have hll := Nat.eq_of_beq_eq_true hrm.2
        obtain ⟨cs, hcs, hlok, hrun, hlen⟩ := newCells_rel (P := P) hr hx hnl hll
        have hni' : ∀ k, dx ≠ .int k := fun k e => hni k e
        have hrunw := hrun w (fun _ => rfl)
        have hrund := hrun w.drew (fun _ => rfl)
        have hcsl := hcs.length
        have hopn : opn = 4611686018427387904 := rfl
        split at hk
        · -- nothing there yet
          obtain ⟨rfl, rfl, rfl⟩ := vr_sliceN hs
          simp only [Nat.beq_refl, Bool.and_self, cond_true, Nat.zero_add] at hk hb1 hb2
          cases hn0 : Nat.beq n 0 with
          | true =>
            rw [hn0, cond_true] at hk
            have := Nat.eq_of_beq_eq_true hn0
            subst this
            have hc0 : cs = [] := by apply List.eq_nil_of_length_eq_zero; omega
            subst hc0
            exact ⟨φ, _, h, .slice none 0 0, w, run_append_in (base := none) hd hdx hni' hi (hlen w) hrunw (by omega) (w' := w) (by simp) (fun _ => rfl), .refl hr, .nilS, hk⟩
          | false =>
            rw [hn0, cond_false] at hk
            have hnp : 0 < n := by
              rcases Nat.eq_zero_or_pos n with h0 | h0
              · rw [h0] at hn0; cases hn0
              · exact h0
            have hcap : 0 + n ≤ grownCap w (0 + n) 0 e := cap_gt
            obtain ⟨g1, g2⟩ := append_new_good (φ := φ) (w := w) (e := e) (h := h) (old := []) (olds := []) (sLen := 0) (n := n) (cap := grownCap w (0 + n) 0 e) hzs .nil hcs rfl hlok (by simp) hll h ⟨hr, rfl⟩ hcap
            have hrn := run_append_new (P := P) (w := w) (t := t) (tx := tx) (ty := ty) (base := none) (sLen := 0) (sCap := 0) (olds := []) hd hdx hni' hi hz (hlen w) hrund (by simp [Builtin.firstCells]) (by omega) (by simpa using hb1) (by simpa using hb2)
            simp only [Nat.zero_add, List.nil_append] at g1 g2 hrn hk
            exact ⟨_, _, _, _, _, hrn, g1, g2, hk⟩
        · rename_i ad
          rcases vr_slice hs with ⟨t', a', hφ, hro, hsp, rfl, rfl, hc⟩ | ⟨t', ra, c', hφ, hsp, hc, hcase⟩
          · have hbo : Nat.blt 0 opn = true := by decide
            rw [hbo, cond_true] at hk
            cases hroom : Nat.ble (0 + n) 0 with
            | true =>
              rw [hroom, cond_true] at hk
              simp only [Option.bind_eq_some_iff] at hk
              obtain ⟨h', hst, hk⟩ := hk
              exfalso
              obtain ⟨cc, op, ee, hb, _⟩ := st_inv hst
              obtain ⟨t2, k1, k2, _⟩ := hr.cells _ _ _ _ _ hb
              rw [hφ] at k1
              obtain rfl := Option.some.inj k1
              rw [hro] at k2; cases k2
            | false =>
              rw [hroom, cond_false] at hk
              have hroom' : 0 < 0 + n := by
                rcases Nat.lt_or_ge 0 (0 + n) with h' | h'
                · exact h'
                · rw [Nat.ble_eq_true_of_le h'] at hroom; cases hroom
              simp only [Option.bind_eq_some_iff] at hk
              obtain ⟨old, hold, hk⟩ := hk
              obtain ⟨olds, o1, o2, o3, o4⟩ := ldRow_rel hr hφ hold
              have hold' : (Builtin.firstCells i.size 0 (.slice (some a') 0 0)).run P w.drew = .ok olds.toArray w.drew := by
                have : olds = [] := by apply List.eq_nil_of_length_eq_zero; rw [← o1.length, o2]; simp
                subst this
                exact run_firstCells_some (P := P) w.drew i.size 0 a' 0 0 [] (by simp) (fun j v hj => by simp at hj)
              have hcap : 0 + n ≤ grownCap w (0 + n) 0 e := cap_gt
              obtain ⟨g1, g2⟩ := append_new_good (φ := φ) (w := w) (e := e) (h := h) (sLen := 0) (n := n) (cap := grownCap w (0 + n) 0 e) hzs o1 hcs o4 hlok o2 hll h ⟨hr, rfl⟩ hcap
              have hrn := run_append_new (P := P) (w := w) (t := t) (tx := tx) (ty := ty) hd hdx hni' hi hz (hlen w) hrund hold' hroom' hb1 hb2
              rw [hc]
              exact ⟨_, _, _, _, _, hrn, g1, g2, hk⟩
          rcases hcase with ⟨hlt, rfl, hra⟩ | ⟨rfl, hle, htot, hra⟩
          · -- the capacity is known
            have hbo : Nat.blt c' opn = true := Nat.ble_eq_true_of_le hlt
            rw [hbo, cond_true] at hk
            cases hroom : Nat.ble (sLen + n) c' with
            | true =>
              rw [hroom, cond_true] at hk
              have hroom' := Nat.le_of_ble_eq_true hroom
              simp only [Option.bind_eq_some_iff] at hk
              obtain ⟨h', hst, hk⟩ := hk
              obtain ⟨w', hst', hgood⟩ := st_sound (P := P) hr hφ hcs hlok hst
              have hvr : VR φ (.slice (some ad) (sLen + n) c') (.slice (some ⟨t'.blk, ra, none⟩) (sLen + n) c') := by
                obtain ⟨ab, ao, as⟩ := ad
                simp only at hsp; subst hsp
                exact mk_slice hφ hlt (hra.imp id fun ⟨p, q⟩ => ⟨by omega, q⟩)
              refine ⟨φ, _, h', _, w', ?_, hgood, hvr, hk⟩
              rw [hc]
              refine run_append_in hd hdx hni' hi (hlen w) hrunw hroom' (fun a ha => ?_) (fun e => by cases e)
              obtain rfl := Option.some.inj ha
              rw [add_lit]
              rcases hra with rfl | ⟨rfl, rfl⟩
              · rw [← hst', Nat.add_assoc]
              · have hn0 : n = 0 := by omega
                subst hn0
                have hc0 : cs = [] := by apply List.eq_nil_of_length_eq_zero; omega
                subst hc0
                have : w' = w := by simpa [storeCells] using hst'.symm
                simp [storeCells, this]
            | false =>
              rw [hroom, cond_false] at hk
              have hroom' : c' < sLen + n := by
                rcases Nat.lt_or_ge c' (sLen + n) with h' | h'
                · exact h'
                · rw [Nat.ble_eq_true_of_le h'] at hroom; cases hroom
              simp only [Option.bind_eq_some_iff] at hk
              obtain ⟨old, hold, hk⟩ := hk
              obtain ⟨olds, o1, o2, o3, o4⟩ := ldRow_rel hr hφ hold
              have hold' : (Builtin.firstCells i.size sLen (.slice (some ⟨t'.blk, ra, none⟩) sLen c')).run P w.drew = .ok olds.toArray w.drew := by
                refine run_firstCells_at (by rw [← o1.length, o2]) rfl fun j c hj => ?_
                rcases hra with rfl | ⟨rfl, rfl⟩
                · exact o3 j c hj
                · have : olds = [] := by apply List.eq_nil_of_length_eq_zero; rw [← o1.length, o2]; simp
                  subst this; simp at hj
              have hcap : sLen + n ≤ grownCap w (sLen + n) c' e := cap_gt
              obtain ⟨g1, g2⟩ := append_new_good (φ := φ) (w := w) (e := e) (h := h) (sLen := sLen) (n := n) (cap := grownCap w (sLen + n) c' e) hzs o1 hcs o4 hlok o2 hll h ⟨hr, rfl⟩ hcap
              have hrn := run_append_new (P := P) (w := w) (t := t) (tx := tx) (ty := ty) hd hdx hni' hi hz (hlen w) hrund hold' hroom' hb1 hb2
              rw [hc]
              exact ⟨_, _, _, _, _, hrn, g1, g2, hk⟩
          · -- the capacity is not known
            have hbo : Nat.blt opn opn = false := by decide
            rw [hbo, cond_false] at hk
            split at hk
            · rename_i c esz hbk
              cases hes : Nat.beq esz i.size with
              | false => rw [hes, cond_false] at hk; cases hk
              | true =>
              rw [hes, cond_true] at hk
              have := Nat.eq_of_beq_eq_true hes
              subst this
              obtain ⟨t2, g1, g2, g3, g4, g5, g6⟩ := hr.cells ad.block c true false i.size hbk
              rw [hφ] at g1
              obtain rfl := Option.some.inj g1
              obtain ⟨rc, el, hg, hrc⟩ := g5 rfl
              cases hin : Nat.ble (ad.off + (sLen + n) * i.size) c.length with
              | true =>
                rw [hin, cond_true] at hk
                have hin' := Nat.le_of_ble_eq_true hin
                simp only [Option.bind_eq_some_iff] at hk
                obtain ⟨h', hst, hk⟩ := hk
                obtain ⟨w', hst', hgood⟩ := st_sound (P := P) hr hφ hcs hlok hst
                have hroom' : sLen + n ≤ c' := by
                  rw [g3] at htot
                  have : (sLen + n) * i.size ≤ c' * i.size := by omega
                  exact Nat.le_of_mul_le_mul_right this hpos
                have hvr : VR φ (.slice (some ad) (sLen + n) opn) (.slice (some ⟨t'.blk, ra, none⟩) (sLen + n) c') := by
                  obtain ⟨ab, ao, as⟩ := ad
                  simp only at hsp; subst hsp
                  exact mk_sliceO hφ hroom' htot (hra.imp id fun ⟨p, q⟩ => ⟨by omega, q⟩)
                refine ⟨φ, _, h', _, w', ?_, hgood, hvr, hk⟩
                rw [hc]
                refine run_append_in hd hdx hni' hi (hlen w) hrunw hroom' (fun a ha => ?_) (fun e => by cases e)
                obtain rfl := Option.some.inj ha
                rw [add_lit]
                rcases hra with rfl | ⟨rfl, rfl⟩
                · rw [← hst', Nat.add_assoc]
                · have hn0 : n = 0 := by omega
                  subst hn0
                  have hc0 : cs = [] := by apply List.eq_nil_of_length_eq_zero; omega
                  subst hc0
                  have : w' = w := by simpa [storeCells] using hst'.symm
                  simp [storeCells, this]
              | false =>
                rw [hin, cond_false] at hk
                cases hpre : Nat.ble (ad.off + sLen * i.size) c.length with
                | false => rw [hpre, cond_false] at hk; cases hk
                | true =>
                rw [hpre, cond_true] at hk
                have hpre' := Nat.le_of_ble_eq_true hpre
                by_cases hroom' : sLen + n ≤ c'
                · -- in place
                  have hra' : ra = t'.sh + ad.off := by
                    rcases hra with h1 | ⟨h1, h2⟩
                    · exact h1
                    · exfalso
                      have hn0 : n = 0 := by omega
                      subst hn0 h1
                      simp only [Nat.zero_mul, Nat.add_zero] at hpre' hin
                      rw [Nat.ble_eq_true_of_le hpre'] at hin
                      cases hin
                  subst hra'
                  have hmul : (sLen + n) * i.size ≤ c' * i.size := Nat.mul_le_mul_right _ hroom'
                  rw [Nat.add_mul] at hmul
                  rw [g3] at htot
                  obtain ⟨w', r1, r2, r3, r4, r5, r6, r7⟩ := run_storeCells_rel (P := P) t'.blk (t'.sh + ad.off + sLen * i.size) el cs 0 rc w hg (by omega) (fun u hu => by
                    obtain ⟨j, hj, rfl⟩ := List.mem_iff_getElem.1 hu
                    have hj' : j < l.length := by omega
                    exact (hcs.get2 j l[j] cs[j] (by simp) (by simp)).oneCell (by rw [List.all_eq_true] at hlok; exact hlok _ (List.getElem_mem hj')))
                  simp only [Nat.add_zero] at r2
                  have hgood := move_sound (w' := w') hr hφ hbk hcs hlok hpre' hg (by omega) hrc r2 r3 r4 r5 r6 r7
                  refine ⟨_, _, _, .slice (some ⟨t'.blk, t'.sh + ad.off, none⟩) (sLen + n) c', w', ?_, hgood, ?_, hk⟩
                  · rw [hc]
                    refine run_append_in hd hdx hni' hi (hlen w) hrunw hroom' (fun a ha => ?_) (fun e => by cases e)
                    obtain rfl := Option.some.inj ha
                    rw [add_lit]
                    exact r1
                  · have := @VR.sliceO (grow φ h.n ⟨t'.blk, t'.sh + ad.off, t'.tot, i.size, false⟩) h.n 0 (sLen + n) c' _ (grow_new φ h.n _) (by simpa using htot) hroom'
                    simpa using this
                · -- a new row
                  have hroom2 : c' < sLen + n := by omega
                  have hold : ldRow h ad.block ad.off (sLen * i.size) = some ((c.drop ad.off).take (sLen * i.size)) := by
                    unfold ldRow; rw [hbk]; simp only [hpre, cond_true]
                  obtain ⟨olds, o1, o2, o3, o4⟩ := ldRow_rel hr hφ hold
                  have hold' : (Builtin.firstCells i.size sLen (.slice (some ⟨t'.blk, ra, none⟩) sLen c')).run P w.drew = .ok olds.toArray w.drew := by
                    refine run_firstCells_at (by rw [← o1.length, o2]) rfl fun j c hj => ?_
                    rcases hra with rfl | ⟨rfl, rfl⟩
                    · exact o3 j c hj
                    · have : olds = [] := by apply List.eq_nil_of_length_eq_zero; rw [← o1.length, o2]; simp
                      subst this; simp at hj
                  have hcap : sLen + n ≤ grownCap w (sLen + n) c' e := cap_gt
                  obtain ⟨g1, g2⟩ := append_new_good (φ := φ) (w := w) (e := e) (h := h) (sLen := sLen) (n := n) (cap := grownCap w (sLen + n) c' e) hzs o1 hcs o4 hlok o2 hll (h.set ad.block none) ⟨forget_rel hr _, rfl⟩ hcap
                  have hrn := run_append_new (P := P) (w := w) (t := t) (tx := tx) (ty := ty) hd hdx hni' hi hz (hlen w) hrund hold' hroom2 hb1 hb2
                  rw [hc]
                  exact ⟨_, _, _, _, _, hrn, g1, g2, hk⟩
            · cases hk
      · cases hk
  · cases hk
end
end Go.Lg
