/- Soundness of the evaluator. Part 5: loads, stores, new blocks. -/
import Derived.Test.YtciiigaagggefaaEv4
namespace Go.Lg
open Go

theorem setL_length : ∀ (vs c : List Value) (o : Nat), (AH.setL c o vs).length = c.length
  | [], _, _ => rfl
  | v :: vs, c, o => by simp [AH.setL, setL_length vs]

theorem setL_get : ∀ (vs c : List Value) (o k : Nat), o + vs.length ≤ c.length → (AH.setL c o vs)[k]? = if o ≤ k ∧ k < o + vs.length then vs[k - o]? else c[k]?
  | [], c, o, k, _ => by
    simp only [AH.setL, List.length_nil, Nat.add_zero]
    rw [if_neg (by omega)]
  | v :: vs, c, o, k, h => by
    simp only [List.length_cons] at h
    simp only [AH.setL, List.length_cons]
    rw [setL_get vs (c.set o v) (o + 1) k (by simpa using (by omega : o + 1 + vs.length ≤ c.length))]
    by_cases h1 : o + 1 ≤ k ∧ k < o + 1 + vs.length
    · rw [if_pos h1, if_pos (by omega)]
      have : k - o = (k - (o + 1)) + 1 := by omega
      rw [this]; rfl
    · rw [if_neg h1]
      by_cases hk : k = o
      · subst hk
        rw [if_pos (by omega), List.getElem?_set_self (by omega)]
        simp
      · rw [if_neg (by omega), List.getElem?_set_ne (by omega)]

theorem add_lit (b o n : Nat) : (⟨b, o, none⟩ : Addr).add n = ⟨b, o + n, none⟩ := by
  unfold Addr.add; split <;> simp_all

theorem ld_rel {φ : Emb} {h : AH} {w : World} (hr : HRel φ h w) {b o : Nat} {v : Value} (hv : h.ld b o = some v) :
    ∃ t v', φ b = some t ∧ w.cell? ⟨t.blk, t.sh + o, none⟩ = some v' ∧ VR φ v v' ∧ cellOk v = true := by
  unfold AH.ld at hv
  split at hv
  · rename_i c op ro esz hb
    obtain ⟨t, h1, _, _, _, _, h2⟩ := hr.cells b c op ro esz hb
    obtain ⟨hc, v', h3, h4⟩ := h2 o v hv
    exact ⟨t, v', h1, h3, h4, hc⟩
  · cases hv

theorem ldCK_inv {h : AH} {c : CK} {b o : Nat} {K : Value → Res} {r : Value × AH} (hv : ldCK h c b o K = some r) : ∃ v, h.ld b o = some v ∧ K v = some r := by
  cases c <;> simp only [ldCK, Option.bind_eq_some_iff] at hv
  case int k =>
    obtain ⟨x, h1, h2⟩ := hv
    simp only [AH.ldI, Option.bind_eq_some_iff] at h1
    obtain ⟨v, h3, h4⟩ := h1
    split at h4
    · rename_i k' y
      cases hk : (k == k') with
      | false => simp [hk] at h4
      | true =>
        simp [hk] at h4
        have := eq_of_beq hk
        subst this; subst h4
        exact ⟨_, h3, h2⟩
    · cases h4
  case any => exact hv
  case ifc =>
    obtain ⟨x, h1, h2⟩ := hv
    simp only [AH.ldF, Option.bind_eq_some_iff] at h1
    obtain ⟨v, h3, h4⟩ := h1
    split at h4
    · obtain rfl := Option.some.inj h4; exact ⟨_, h3, h2⟩
    · obtain rfl := Option.some.inj h4; exact ⟨_, h3, h2⟩
    · cases h4
  case fn =>
    obtain ⟨x, h1, h2⟩ := hv
    simp only [AH.ldG, Option.bind_eq_some_iff] at h1
    obtain ⟨v, h3, h4⟩ := h1
    split at h4
    · obtain rfl := Option.some.inj h4; exact ⟨_, h3, h2⟩
    · obtain rfl := Option.some.inj h4; exact ⟨_, h3, h2⟩
    · cases h4
  all_goals
    obtain ⟨x, h1, h2⟩ := hv
    simp only [AH.ldB, AH.ldStr, AH.ldP, AH.ldS, AH.ldM, Option.bind_eq_some_iff] at h1
    obtain ⟨v, h3, h4⟩ := h1
    split at h4
    · obtain rfl := Option.some.inj h4
      exact ⟨_, h3, h2⟩
    · cases h4

theorem ldN_inv {h : AH} : ∀ {cs : List CK} {b o : Nat} {K : List Value → Res} {r : Value × AH}, ldN h cs b o K = some r →
    ∃ vs, vs.length = cs.length ∧ (∀ (i : Nat) (v : Value), vs[i]? = some v → h.ld b (o + i) = some v) ∧ K vs = some r
  | [], b, o, K, r, hv => ⟨[], rfl, by simp, hv⟩
  | c :: cs, b, o, K, r, hv => by
    obtain ⟨v, h1, h2⟩ := ldCK_inv hv
    obtain ⟨vs, h3, h4, h5⟩ := ldN_inv h2
    refine ⟨v :: vs, by simp [h3], fun i u hu => ?_, h5⟩
    cases i with
    | zero => simp at hu; subst hu; exact h1
    | succ i => simp at hu; have := h4 i u hu; rw [← this]; congr 1; omega

/-- a row of abstract cells stands for a row of the world's -/
theorem row_rel {φ : Emb} {h : AH} {w : World} (hr : HRel φ h w) {b o : Nat} {t : Tgt} (ht : φ b = some t) : ∀ {vs : List Value},
    (∀ (i : Nat) (v : Value), vs[i]? = some v → h.ld b (o + i) = some v) → ∃ cs, VRs φ vs cs ∧ (∀ (i : Nat) (c : Value), cs[i]? = some c → w.cell? ⟨t.blk, t.sh + o + i, none⟩ = some c) ∧ (∀ c ∈ cs, c.oneCell' = true) := by
  intro vs
  induction vs generalizing o with
  | nil => intro _; exact ⟨[], .nil, by simp, by simp⟩
  | cons v vs ih =>
    intro hv
    obtain ⟨t', v', h1, h2, h3, h4⟩ := ld_rel hr (hv 0 v rfl)
    rw [ht] at h1
    obtain rfl := Option.some.inj h1
    obtain ⟨cs, h5, h6, h7⟩ := ih (o := o + 1) fun i u hu => by rw [← hv (i + 1) u (by simpa using hu)]; congr 1; omega
    refine ⟨v' :: cs, .cons h3 h5, fun i c hc => ?_, ?_⟩
    · cases i with
      | zero => simp at hc; subst hc; simpa using h2
      | succ i => simp at hc; rw [← h6 i c hc]; congr 2; omega
    · intro c hc
      rcases List.mem_cons.1 hc with rfl | hc
      · exact h3.oneCell h4
      · exact h7 c hc

theorem kindsOf_inv {P : Program} {t : TypeId} {ag : Bool} {cs : List CK} (h : kindsOf P t = some (ag, cs)) :
    ∃ d i, P.underlying t = some d ∧ P.info? t = some i ∧ isAggD d = ag ∧ i.size = cs.length := by
  unfold kindsOf at h
  split at h
  · rename_i d i hd hi
    split at h
    · rename_i z hz
      cases hb : Nat.beq z.cells.size i.size with
      | false => simp [hb] at h
      | true =>
        simp [hb] at h
        refine ⟨d, i, hd, hi, h.1, ?_⟩
        rw [← h.2]
        have := Nat.eq_of_beq_eq_true hb
        simp [this]
    · cases h
  · cases h

theorem run_isAgg {P : Program} {t : TypeId} {d : TypeDesc} (hd : P.underlying t = some d) (w : World) : (isAgg t).run P w = .ok (isAggD d) w := by
  unfold isAgg
  simp only [underlying, Sem.run_bind, run_program, Result.andThen_ok, hd, Sem.run_pure]
  cases d <;> rfl
theorem run_sizeOf' {P : Program} {t : TypeId} {i : TypeInfo} (hi : P.info? t = some i) (w : World) : (sizeOf t).run P w = .ok i.size w := by
  simp [sizeOf, typeInfo, hi]
theorem run_underlying' {P : Program} {t : TypeId} {d : TypeDesc} (hd : P.underlying t = some d) (w : World) : (underlying t).run P w = .ok d w := by
  simp [underlying, hd]
theorem run_typeInfo' {P : Program} {t : TypeId} {i : TypeInfo} (hi : P.info? t = some i) (w : World) : (typeInfo t).run P w = .ok i w := by
  simp [typeInfo, hi]
theorem sizeT_inv {P : Program} {t : TypeId} {n : Nat} (h : sizeT P t = some n) : ∃ i, P.info? t = some i ∧ i.size = n := by
  simp only [sizeT, Option.bind_eq_some_iff] at h
  obtain ⟨i, h1, h2⟩ := h
  exact ⟨i, h1, Option.some.inj h2⟩

theorem run_load_cell {P : Program} {w : World} {a : Addr} {v : Value} (h : w.cell? a = some v) : (load a).run P w = .ok v w := by simp [h]

/-- what is read at an address -/
theorem ldT_sound {P : Program} {φ : Emb} {h : AH} {w : World} (hr : HRel φ h w) {ty : TypeId} {b o : Nat} {t : Tgt} (ht : φ b = some t) {K : Value → Res} {r : Value × AH}
    (hv : ldT P h ty b o K = some r) : ∃ v c, (loadVar ty ⟨t.blk, t.sh + o, none⟩).run P w = .ok c w ∧ VR φ v c ∧ K v = some r := by
  unfold ldT at hv
  split at hv
  · rename_i cs hk
    obtain ⟨d, i, hd, hi, hag, hsz⟩ := kindsOf_inv hk
    obtain ⟨vs, h1, h2, h3⟩ := ldN_inv hv
    obtain ⟨ws, h4, h5, _⟩ := row_rel hr ht h2
    refine ⟨_, .agg ws.toArray, ?_, h4.agg, h3⟩
    simp only [loadVar, Sem.run_bind, run_isAgg hd, Result.andThen_ok, hag, if_true, run_sizeOf' hi]
    have hl : i.size = ws.length := by rw [hsz, ← h1, h4.length]
    rw [hl]
    have := run_loadCells_list (P := P) w ⟨t.blk, t.sh + o, none⟩ ws (fun j v hj => by rw [add_lit]; exact h5 j v hj)
    simp [this]
  · rename_i c hk
    obtain ⟨d, i, hd, hi, hag, hsz⟩ := kindsOf_inv hk
    obtain ⟨v, h1, h2⟩ := ldCK_inv hv
    obtain ⟨t', v', h3, h4, h5, _⟩ := ld_rel hr h1
    rw [ht] at h3
    obtain rfl := Option.some.inj h3
    refine ⟨v, v', ?_, h5, h2⟩
    simp only [loadVar, Sem.run_bind, run_isAgg hd, Result.andThen_ok, hag]
    exact run_load_cell h4
  · cases hv

/-- a row of the world, written from a place on -/
theorem run_storeCells_rel {P : Program} (g o : Nat) (el : TypeId) : ∀ (vs : List Value) (i : Nat) (cur : Array Value) (w : World), w.heap[g]? = some (.cells cur el (0, 0)) → o + i + vs.length ≤ cur.size → (∀ v ∈ vs, v.oneCell' = true) →
    ∃ w', (storeCells ⟨g, o, none⟩ vs i).run P w = .ok () w' ∧ w'.heap[g]? = some (.cells (AH.setL cur.toList (o + i) vs).toArray el (0, 0)) ∧ (∀ k, k ≠ g → w'.heap[k]? = w.heap[k]?) ∧
      w'.os = w.os ∧ w'.tape = w.tape ∧ w'.output = w.output ∧ w'.heap.size = w.heap.size
  | [], i, cur, w, hg, _, _ => ⟨w, by simp [storeCells], by simpa [AH.setL] using hg, fun _ _ => rfl, rfl, rfl, rfl, rfl⟩
  | v :: vs, i, cur, w, hg, hl, h1 => by
    simp only [List.length_cons] at hl
    have hcell : w.cell? ⟨g, o + i, none⟩ = some cur[o + i] := by
      rw [cell_of_row w g (o + i) cur el (0, 0) hg]
      exact Array.getElem?_eq_getElem (by omega)
    have hst : (store (⟨g, o + i, none⟩ : Addr) v).run P w = .ok () (w.setCell ⟨g, o + i, none⟩ v) := by
      rw [run_store P w _ v .plain (h1 v (by simp)), hcell]
      simp [frozen_of_row w g (o + i) cur el hg]
    have hg' : (w.setCell ⟨g, o + i, none⟩ v).heap[g]? = some (.cells (cur.setIfInBounds (o + i) v) el (0, 0)) := by
      have := heap_setCell_same w g (o + i) cur el v hg
      simpa using this
    obtain ⟨w', h2, h3, h4, h5, h6, h7, h8⟩ := run_storeCells_rel (P := P) g o el vs (i + 1) (cur.setIfInBounds (o + i) v) (w.setCell ⟨g, o + i, none⟩ v) hg' (by simp; omega) (fun u hu => h1 u (by simp [hu]))
    refine ⟨w', ?_, ?_, fun k hk => ?_, h5, h6, h7, by simpa using h8⟩
    · simp only [storeCells, Sem.run_bind, add_lit, hst, Result.andThen_ok, h2]
    · rw [h3]; simp [AH.setL]; congr 1
    · rw [h4 k hk, heap_setCell_other _ _ _ _ hk]

theorem st_inv {h h' : AH} {b o : Nat} {vs : List Value} (hs : h.st b o vs = some h') : ∃ c op esz, h.get b = some (.cells c op false esz) ∧ o + vs.length ≤ c.length ∧ h' = h.set b (some (.cells (AH.setL c o vs) op false esz)) := by
  unfold AH.st at hs
  split at hs
  · rename_i c op ro esz hb
    cases ro with
    | true => simp at hs
    | false =>
      simp only [cond_false] at hs
      cases hle : Nat.ble (o + vs.length) c.length with
      | false => simp [hle] at hs
      | true =>
        simp only [hle, cond_true, Option.some.injEq] at hs
        exact ⟨c, op, esz, hb, Nat.le_of_ble_eq_true hle, hs.symm⟩
  · cases hs

/-- the abstract memory after a store stands for the world after it -/
theorem st_sound {P : Program} {φ : Emb} {h h' : AH} {w : World} (hr : HRel φ h w) {b o : Nat} {t : Tgt} (ht : φ b = some t) {vs cs : List Value} (hv : VRs φ vs cs) (hok : vs.all cellOk = true)
    (hs : h.st b o vs = some h') : ∃ w', (storeCells ⟨t.blk, t.sh + o, none⟩ cs).run P w = .ok () w' ∧ Good φ w h' w' φ := by
  obtain ⟨c, op, esz, hb, hle, rfl⟩ := st_inv hs
  obtain ⟨t', h1, hro, hesz, htot, hblk, hcells⟩ := hr.cells b c op false esz hb
  rw [ht] at h1
  obtain rfl := Option.some.inj h1
  obtain ⟨rc, el, hg, hrc⟩ := hblk rfl
  have hlen := hv.length
  have hone : ∀ u ∈ cs, u.oneCell' = true := by
    intro u hu
    obtain ⟨i, hi, rfl⟩ := List.mem_iff_getElem.1 hu
    have hi' : i < vs.length := by omega
    have := hv.get2 i vs[i] cs[i] (by simp) (by simp)
    exact this.oneCell (by rw [List.all_eq_true] at hok; exact hok _ (List.getElem_mem hi'))
  obtain ⟨w', h2, h3, h4, h5, h6, h7, h8⟩ := run_storeCells_rel (P := P) t.blk (t.sh + o) el cs 0 rc w hg (by omega) hone
  simp only [Nat.add_zero] at h3
  have hother : ∀ a : Addr, a.block ≠ t.blk → w'.cell? a = w.cell? a := fun a ha => by simp [World.cell?, h4 a.block ha]
  refine ⟨w', h2, .refl _ _, ⟨h5, h6, h7, by omega, fun B hB hro' => ?_⟩, ?_⟩
  · by_cases hBt : B = t.blk
    · have := hro' b t ht hBt.symm
      rw [hro] at this
      cases this
    · exact h4 B hBt
  · refine ⟨hr.lt, fun b' t' h => by have := hr.blkLt b' t' h; omega, ?_, ?_, ?_, ?_, ?_⟩
    · intro b' c' op' ro' esz' hb'
      rw [AH.get_set] at hb'
      by_cases e : b' = b
      · subst e
        rw [if_pos rfl] at hb'
        simp only [Option.some.injEq, Blk.cells.injEq] at hb'
        obtain ⟨rfl, rfl, rfl, rfl⟩ := hb'
        refine ⟨t, ht, hro, hesz, by rw [setL_length]; exact htot, fun _ => ⟨_, el, h3, by simp [setL_length]; exact hrc⟩, fun k v hk => ?_⟩
        rw [setL_get _ _ _ _ hle] at hk
        rw [cell_of_row w' t.blk _ _ el (0, 0) h3]
        simp only [List.getElem?_toArray]
        rw [setL_get _ _ _ _ (by simp; omega)]
        by_cases hin : o ≤ k ∧ k < o + vs.length
        · rw [if_pos hin] at hk
          rw [if_pos (by omega)]
          obtain ⟨c', hc', hvr⟩ := hv.get _ _ hk
          refine ⟨?_, c', ?_, hvr⟩
          · rw [List.all_eq_true] at hok
            exact hok _ (List.mem_of_getElem? hk)
          · rw [← hc']; congr 1; omega
        · rw [if_neg hin] at hk
          rw [if_neg (by omega)]
          obtain ⟨hc, v', h9, h10⟩ := hcells k v hk
          rw [cell_of_row w t.blk _ _ el (0, 0) hg] at h9
          exact ⟨hc, v', by simpa using h9, h10⟩
      · rw [if_neg e] at hb'
        obtain ⟨t', g1, g2, g3, g4, g5, g6⟩ := hr.cells b' c' op' ro' esz' hb'
        have hne : t'.blk ≠ t.blk := fun he => by
          rcases hr.inj b' b _ _ t' t hb' hb g1 ht he with h | ⟨_, h⟩
          · exact e h
          · rw [hro] at h; cases h
        refine ⟨t', g1, g2, g3, g4, fun hf => by rw [h4 _ hne]; exact g5 hf, fun k v hk => ?_⟩
        obtain ⟨hc, v', h9, h10⟩ := g6 k v hk
        exact ⟨hc, v', by rw [hother _ hne]; exact h9, h10⟩
    · intro b' es clk hb'
      rw [AH.get_set] at hb'
      by_cases e : b' = b
      · subst e; rw [if_pos rfl] at hb'; cases hb'
      · rw [if_neg e] at hb'
        obtain ⟨t', es', g1, g2, g3, g4⟩ := hr.maps b' es clk hb'
        have hne : t'.blk ≠ t.blk := fun he => by
          rcases hr.inj b' b _ _ t' t hb' hb g1 ht he with h | ⟨_, h⟩
          · exact e h
          · rw [hro] at h; cases h
        exact ⟨t', es', g1, g2, by rw [h4 _ hne]; exact g3, g4⟩
    · intro b1 b2 x x' t1 t2 hx hx' h1 h2' he
      rw [AH.get_set] at hx hx'
      have fx : ∃ y, h.get b1 = some y := by
        by_cases e : b1 = b
        · subst e; exact ⟨_, hb⟩
        · rw [if_neg e] at hx; exact ⟨_, hx⟩
      have fx' : ∃ y, h.get b2 = some y := by
        by_cases e : b2 = b
        · subst e; exact ⟨_, hb⟩
        · rw [if_neg e] at hx'; exact ⟨_, hx'⟩
      obtain ⟨y, hy⟩ := fx
      obtain ⟨y', hy'⟩ := fx'
      exact hr.inj b1 b2 y y' t1 t2 hy hy' h1 h2' he
    · intro b' x hx
      rw [AH.get_set] at hx
      by_cases e : b' = b
      · subst e; exact hr.gets _ _ hb
      · rw [if_neg e] at hx; exact hr.gets _ _ hx
    · intro b' c' esz' t' hx ht'
      rw [AH.get_set] at hx
      by_cases e : b' = b
      · subst e
        rw [if_pos rfl] at hx
        simp only [Option.some.injEq, Blk.cells.injEq] at hx
        obtain ⟨_, rfl, _, _⟩ := hx
        exact hr.sh0 _ _ _ _ hb ht'
      · rw [if_neg e] at hx; exact hr.sh0 _ _ _ _ hx ht'

/-- the embedding with one block more -/
def grow (φ : Emb) (n : Nat) (t : Tgt) : Emb := fun b => if b = n then some t else φ b
theorem grow_sub {φ : Emb} {h : AH} {w : World} (hr : HRel φ h w) (t : Tgt) : Sub φ (grow φ h.n t) := fun b u hb => by
  have := hr.lt b u hb
  simp only [grow]
  rw [if_neg (by omega)]
  exact hb
theorem grow_new (φ : Emb) (n : Nat) (t : Tgt) : grow φ n t n = some t := by simp [grow]

/-- a new row of cells -/
theorem push_sound {φ : Emb} {h : AH} {w : World} (hr : HRel φ h w) {c rc : List Value} {el : TypeId} {op : Bool} {esz : Nat} (tail : List Value) (hv : VRs φ c rc) (hok : c.all cellOk = true) :
    Good φ w (h.push (.cells c op false esz)) (w.alloc (.cells (rc ++ tail).toArray el)) (grow φ h.n ⟨w.heap.size, 0, rc.length + tail.length, esz, false⟩) := by
  have hsub := grow_sub hr ⟨w.heap.size, 0, rc.length + tail.length, esz, false⟩
  have hlen := hv.length
  refine ⟨⟨hsub, fun b t hb => ?_⟩, ⟨rfl, rfl, rfl, by simp, fun B hB _ => heap_alloc_old w _ B hB⟩, ?_⟩
  · simp only [grow] at hb
    split at hb
    · obtain rfl := Option.some.inj hb; exact .inr (.inl (Nat.le_refl _))
    · exact .inl hb
  · have hnew := heap_alloc_new w (.cells (rc ++ tail).toArray el)
    refine ⟨?_, ?_, ?_, ?_, ?_, ?_, ?_⟩
    · intro b t hb
      simp only [grow] at hb
      split at hb
      · rename_i e; simp [AH.push, e]
      · have := hr.lt b t hb; simp [AH.push]; omega
    · intro b t hb
      simp only [grow] at hb
      split at hb
      · obtain rfl := Option.some.inj hb; simp
      · have := hr.blkLt b t hb; simp; omega
    · intro b c' op' ro' esz' hb
      rw [AH.get_push] at hb
      by_cases e : b = h.n
      · subst e
        rw [if_pos rfl] at hb
        simp only [Option.some.injEq, Blk.cells.injEq] at hb
        obtain ⟨rfl, rfl, rfl, rfl⟩ := hb
        refine ⟨_, grow_new φ h.n _, rfl, rfl, by simp; omega, fun _ => ⟨_, el, hnew, by simp⟩, fun k v hk => ?_⟩
        rw [cell_of_row _ w.heap.size _ _ el (0, 0) hnew]
        obtain ⟨v', h1, h2⟩ := hv.get k v hk
        refine ⟨by rw [List.all_eq_true] at hok; exact hok _ (List.mem_of_getElem? hk), v', ?_, h2.mono hsub⟩
        simp only [Nat.zero_add, List.getElem?_toArray]
        rw [List.getElem?_append_left (by
          rcases Nat.lt_or_ge k rc.length with h' | h'
          · exact h'
          · rw [List.getElem?_eq_none h'] at h1; cases h1)]
        exact h1
      · rw [if_neg e] at hb
        obtain ⟨t', g1, g2, g3, g4, g5, g6⟩ := hr.cells b c' op' ro' esz' hb
        have hlt := hr.blkLt b t' g1
        refine ⟨t', hsub _ _ g1, g2, g3, g4, fun hf => by rw [heap_alloc_old w _ _ hlt]; exact g5 hf, fun k v hk => ?_⟩
        obtain ⟨hc, v', h9, h10⟩ := g6 k v hk
        exact ⟨hc, v', by rw [World.cell?_alloc_lt _ _ _ hlt]; exact h9, h10.mono hsub⟩
    · intro b es clk hb
      rw [AH.get_push] at hb
      by_cases e : b = h.n
      · subst e; rw [if_pos rfl] at hb; cases hb
      · rw [if_neg e] at hb
        obtain ⟨t', es', g1, g2, g3, g4⟩ := hr.maps b es clk hb
        have hlt := hr.blkLt b t' g1
        exact ⟨t', es', hsub _ _ g1, g2, by rw [heap_alloc_old w _ _ hlt]; exact g3, g4.len, fun i e e' h1 h2 => let ⟨a, b, c, d⟩ := g4.at_ i e e' h1 h2; ⟨a, b, c, d.mono hsub⟩⟩
    · intro b1 b2 x x' t1 t2 hx hx' h1 h2 he
      rw [AH.get_push] at hx hx'
      simp only [grow] at h1 h2
      by_cases e1 : b1 = h.n
      · by_cases e2 : b2 = h.n
        · exact .inl (e1.trans e2.symm)
        · rw [if_pos e1] at h1
          rw [if_neg e2] at h2
          obtain rfl := Option.some.inj h1
          have := hr.blkLt b2 t2 h2
          simp at he; omega
      · rw [if_neg e1] at h1 hx
        by_cases e2 : b2 = h.n
        · rw [if_pos e2] at h2
          obtain rfl := Option.some.inj h2
          have := hr.blkLt b1 t1 h1
          simp at he; omega
        · rw [if_neg e2] at h2 hx'
          exact hr.inj b1 b2 _ _ t1 t2 hx hx' h1 h2 he
    · intro b x hx
      rw [AH.get_push] at hx
      by_cases e : b = h.n
      · simp [AH.push, e]
      · rw [if_neg e] at hx
        have := hr.gets b x hx
        simp [AH.push]; omega
    · intro b c' esz' t' hx ht'
      rw [AH.get_push] at hx
      simp only [grow] at ht'
      by_cases e : b = h.n
      · rw [if_pos e] at ht'
        obtain rfl := Option.some.inj ht'
        rfl
      · rw [if_neg e] at hx ht'
        exact hr.sh0 _ _ _ _ hx ht'

/-- what is forgotten -/
theorem forget_rel {φ : Emb} {h : AH} {w : World} (hr : HRel φ h w) (b : Nat) : HRel φ (h.set b none) w := by
  have key : ∀ c x, (h.set b none).get c = some x → h.get c = some x ∧ c ≠ b := fun c x hc => by
    rw [AH.get_set] at hc
    split at hc
    · cases hc
    · rename_i hne; exact ⟨hc, hne⟩
  exact ⟨hr.lt, hr.blkLt, fun b' c op ro esz hb => hr.cells b' c op ro esz (key _ _ hb).1, fun b' es clk hb => hr.maps b' es clk (key _ _ hb).1,
    fun b1 b2 x x' t1 t2 hx hx' => hr.inj b1 b2 x x' t1 t2 (key _ _ hx).1 (key _ _ hx').1, fun b' x hx => hr.gets b' x (key _ _ hx).1, fun b' c esz t hx ht => hr.sh0 b' c esz t (key _ _ hx).1 ht⟩
end Go.Lg
