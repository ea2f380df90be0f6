/- Soundness of the evaluator. Part 22: maps. -/
import Derived.Test.YtciiigaagggefaaGreatEv11
import Derived.MapKept
import Derived.Defers
import Derived.Tactics
set_option linter.unusedVariables false
set_option linter.unusedSimpArgs false
namespace Go.Lg
open Go Go.MapKept

theorem keyOk_isKey {d : TypeDesc} {k : Value} (h : keyOk d k = true) : IsKey d k := by
  unfold keyOk at h
  split at h
  · trivial
  · exact eq_of_beq h
  · trivial
  · cases h
theorem keyOk_flat {d : TypeDesc} {k : Value} (h : keyOk d k = true) : flat1 k = true := by
  unfold keyOk at h
  split at h <;> first | rfl | cases h
theorem seqB_iff {a b : ByteArray} : seqB a b = true ↔ a = b := by
  unfold seqB
  rw [beqL_iff]
  constructor
  · intro h; exact ByteArray.ext (Array.ext' h)
  · rintro rfl; rfl
theorem keqB_eq {d : TypeDesc} {a b : Value} (ha : keyOk d a = true) (hb : keyOk d b = true) : keqB a b = true ↔ a = b := by
  cases a <;> first | (cases d <;> cases ha; done) | skip
  all_goals cases b <;> first | (cases d <;> cases hb; done) | skip
  · simp [keqB]
  · simp [keqB]
  all_goals simp [keqB, seqB_iff]
theorem same_keqB {d : TypeDesc} {a b : Value} (ha : keyOk d a = true) (hb : keyOk d b = true) : Instr.sameNow d a b = some (keqB a b) := by
  obtain ⟨r, h1, h2⟩ := sameNow_of_keys (keyOk_isKey ha) (keyOk_isKey hb)
  rw [h1]
  congr 1
  rw [Bool.eq_iff_iff, h2, keqB_eq ha hb]

/-- what is found, in the model's map -/
theorem afind_none {φ : Emb} {d : TypeDesc} {k : Value} (hk : keyOk d k = true) : ∀ {es es' : List MapEntry} {i : Nat}, MapRel φ es es' → keysOk d es = true → afind k es i = none → Instr.findNow d k es' i = some none
  | [], [], i, _, _, _ => rfl
  | [], _ :: _, i, hm, _, _ => by have := hm.len; simp at this
  | _ :: _, [], i, hm, _, _ => by have := hm.len; simp at this
  | e :: es, e' :: es', i, hm, ho, h => by
    obtain ⟨h1, h2, h3, h4⟩ := hm.at_ 0 e e' rfl rfl
    simp only [keysOk, List.all_cons, Bool.and_eq_true] at ho
    simp only [afind] at h
    cases hb : keqB k e.key with
    | true => rw [hb, cond_true] at h; cases h
    | false =>
      rw [hb, cond_false] at h
      simp only [Instr.findNow, h2, same_keqB hk ho.1, hb]
      exact afind_none hk ⟨by have := hm.len; simpa using this, fun j x x' hx hx' => hm.at_ (j + 1) x x' (by simpa using hx) (by simpa using hx')⟩ ho.2 h
theorem afind_some {φ : Emb} {d : TypeDesc} {k : Value} (hk : keyOk d k = true) : ∀ {es es' : List MapEntry} {i : Nat} {p : Nat × Value}, MapRel φ es es' → keysOk d es = true → afind k es i = some p →
    ∃ j e e', p = (i + j, e.val) ∧ es[j]? = some e ∧ es'[j]? = some e' ∧ e.key = k ∧ Instr.findNow d k es' i = some (some (i + j, e'.val)) ∧ VR φ e.val e'.val
  | [], _, i, p, _, _, h => by cases h
  | _ :: _, [], i, p, hm, _, _ => by have := hm.len; simp at this
  | e :: es, e' :: es', i, p, hm, ho, h => by
    obtain ⟨h1, h2, h3, h4⟩ := hm.at_ 0 e e' rfl rfl
    simp only [keysOk, List.all_cons, Bool.and_eq_true] at ho
    simp only [afind] at h
    cases hb : keqB k e.key with
    | true =>
      rw [hb, cond_true] at h
      obtain rfl := Option.some.inj h
      exact ⟨0, e, e', rfl, rfl, rfl, ((keqB_eq hk ho.1).1 hb).symm, by simp [Instr.findNow, h2, same_keqB hk ho.1, hb], h4⟩
    | false =>
      rw [hb, cond_false] at h
      obtain ⟨j, x, x', g1, g2, g3, g4, g5, g6⟩ := afind_some (φ := φ) hk (es := es) (es' := es') (i := i + 1) ⟨by have := hm.len; simpa using this, fun j x x' hx hx' => hm.at_ (j + 1) x x' (by simpa using hx) (by simpa using hx')⟩ ho.2 h
      refine ⟨j + 1, x, x', by rw [g1]; congr 1; omega, by simpa using g2, by simpa using g3, g4, ?_, g6⟩
      simp only [Instr.findNow, h2, same_keqB hk ho.1, hb, g5]
      congr 3; omega

theorem mapTy_inv {P : Program} {t : TypeId} {d : TypeDesc} {e : TypeId} (h : mapTy P t = some (d, e)) : ∃ k, P.underlying t = some (.map k e) ∧ P.underlying k = some d := by
  unfold mapTy at h
  split at h
  · rename_i k e' hu
    simp only [Option.bind_eq_some_iff, Option.some.injEq, Prod.mk.injEq] at h
    obtain ⟨d', h1, rfl, rfl⟩ := h
    exact ⟨k, hu, h1⟩
  · cases h
theorem vr_nilM {φ : Emb} {c : Value} (h : VR φ (.map none) c) : c = .map none := by cases h; rfl
theorem vr_map {φ : Emb} {r : Nat} {c : Value} (h : VR φ (.map (some r)) c) : ∃ t, φ r = some t ∧ c = .map (some t.blk) := by
  cases h with
  | map h => exact ⟨_, h, rfl⟩
theorem vr_key {φ : Emb} {d : TypeDesc} {k c : Value} (hk : keyOk d k = true) (h : VR φ k c) : c = k := by
  cases h <;> first | rfl | (cases d <;> cases hk)

/-- a map's block is set -/
theorem set_map_good {φ : Emb} {h : AH} {w : World} (hr : HRel φ h w) {r : Nat} {es es2 : List MapEntry} {clk clk2 : Nat} {es2' : Array MapEntry} (hb : h.get r = some (.map es clk)) {t : Tgt} (ht : φ r = some t)
    (hm : MapRel φ es2 es2'.toList) : Good φ w (h.set r (some (.map es2 clk2))) { w with heap := w.heap.setIfInBounds t.blk (.map es2' clk2) } φ := by
  obtain ⟨t0, es0, h1, hro, hw, _⟩ := hr.maps r es clk hb
  rw [ht] at h1
  obtain rfl := Option.some.inj h1
  have hlt : t.blk < w.heap.size := hr.blkLt _ _ ht
  have hne : ∀ b x t', b ≠ r → h.get b = some x → φ b = some t' → t'.blk ≠ t.blk := by
    intro b x t' hbr hx ht' he
    rcases hr.inj b r x _ t' t hx hb ht' ht he with e | ⟨_, e⟩
    · exact hbr e
    · rw [hro] at e; cases e
  have hother : ∀ B, B ≠ t.blk → (w.heap.setIfInBounds t.blk (.map es2' clk2))[B]? = w.heap[B]? := fun B hB => by rw [Array.getElem?_setIfInBounds_ne (Ne.symm hB)]
  refine ⟨.refl _ _, ⟨rfl, rfl, rfl, by simp, fun B hB hall => ?_⟩, ?_⟩
  · exact hother B fun e => by have := hall r t ht e.symm; rw [hro] at this; cases this
  · refine ⟨hr.lt, fun b t' hb' => by simpa using hr.blkLt b t' hb', ?_, ?_, ?_, ?_, ?_, ?_⟩
    · intro b c op ro esz hbc
      rw [AH.get_set] at hbc
      split at hbc
      · cases hbc
      · rename_i hbr
        obtain ⟨t', g1, g2, g3, g4, g5, g6⟩ := hr.cells b c op ro esz hbc
        have hn := hne b _ t' hbr hbc g1
        refine ⟨t', g1, g2, g3, g4, fun hf => by rw [hother _ hn]; exact g5 hf, fun k v hk => ?_⟩
        obtain ⟨hc, v', h9, h10⟩ := g6 k v hk
        refine ⟨hc, v', ?_, h10⟩
        rw [← h9]
        simp only [World.cell?, hother _ hn]
    · intro b es3 clk3 hbm
      rw [AH.get_set] at hbm
      split at hbm
      · rename_i e
        subst e
        simp only [Option.some.injEq, Blk.map.injEq] at hbm
        obtain ⟨rfl, rfl⟩ := hbm
        exact ⟨t, es2', ht, hro, by simp [hlt], hm⟩
      · rename_i hbr
        obtain ⟨t', es', g1, g2, g3, g4⟩ := hr.maps b es3 clk3 hbm
        exact ⟨t', es', g1, g2, by rw [hother _ (hne b _ t' hbr hbm g1)]; exact g3, g4⟩
    · intro b1 b2 x x' t1 t2 hx hx' h1 h2 he
      rw [AH.get_set] at hx hx'
      have key : ∀ b y, (if b = r then some (Blk.map es2 clk2) else h.get b) = some y → ∃ z, h.get b = some z := by
        intro b y hy
        split at hy
        · rename_i e; subst e; exact ⟨_, hb⟩
        · exact ⟨_, hy⟩
      obtain ⟨z1, hz1⟩ := key b1 x hx
      obtain ⟨z2, hz2⟩ := key b2 x' hx'
      exact hr.inj b1 b2 _ _ t1 t2 hz1 hz2 h1 h2 he
    · intro b x hx
      rw [AH.get_set] at hx
      split at hx
      · rename_i e; subst e; exact hr.gets _ _ hb
      · exact hr.gets _ _ hx
    · intro b c' esz' t' hx ht'
      rw [AH.get_set] at hx
      split at hx
      · cases hx
      · exact hr.sh0 _ _ _ _ hx ht'
    · intro b m since seen last hb'
      rw [AH.get_set] at hb'
      split at hb'
      · cases hb'
      · rename_i hbr
        obtain ⟨t', cm, g1, g2, g3, g4, g5⟩ := hr.iters b m since seen last hb'
        exact ⟨t', cm, g1, g2, g3, by rw [hother _ (hne b _ t' hbr hb' g1)]; exact g4, g5⟩

/-- a new map -/
theorem push_map_good {φ : Emb} {h : AH} {w : World} (hr : HRel φ h w) : Good φ w (h.push (.map [] 0)) (w.alloc (.map #[] 0)) (grow φ h.n ⟨w.heap.size, 0, 0, 0, false⟩) := by
  have hsub := grow_sub hr ⟨w.heap.size, 0, 0, 0, false⟩
  refine ⟨⟨hsub, fun b t hb => ?_⟩, ⟨rfl, rfl, rfl, by simp, fun B hB _ => heap_alloc_old w _ B hB⟩, ?_⟩
  · simp only [grow] at hb
    split at hb
    · obtain rfl := Option.some.inj hb; exact .inr (.inl (Nat.le_refl _))
    · exact .inl hb
  · have hnew := heap_alloc_new w (.map #[] 0)
    refine ⟨?_, ?_, ?_, ?_, ?_, ?_, ?_, ?_⟩
    · intro b t hb
      simp only [grow] at hb
      split at hb
      · rename_i e; simp [AH.push, e]
      · have := hr.lt b t hb; simp [AH.push]; omega
    · intro b t hb
      simp only [grow] at hb
      split at hb
      · obtain rfl := Option.some.inj hb; simp
      · have := hr.blkLt b t hb; simp; omega
    · intro b c' op' ro' esz' hb
      rw [AH.get_push] at hb
      by_cases e : b = h.n
      · subst e; rw [if_pos rfl] at hb; cases hb
      · rw [if_neg e] at hb
        obtain ⟨t', g1, g2, g3, g4, g5, g6⟩ := hr.cells b c' op' ro' esz' hb
        have hlt := hr.blkLt b t' g1
        refine ⟨t', hsub _ _ g1, g2, g3, g4, fun hf => by rw [heap_alloc_old w _ _ hlt]; exact g5 hf, fun k v hk => ?_⟩
        obtain ⟨hc, v', h9, h10⟩ := g6 k v hk
        exact ⟨hc, v', by rw [World.cell?_alloc_lt _ _ _ hlt]; exact h9, h10.mono hsub⟩
    · intro b es clk hb
      rw [AH.get_push] at hb
      by_cases e : b = h.n
      · subst e
        rw [if_pos rfl] at hb
        simp only [Option.some.injEq, Blk.map.injEq] at hb
        obtain ⟨rfl, rfl⟩ := hb
        exact ⟨_, #[], grow_new φ h.n _, rfl, hnew, rfl, fun i e e' h1 => by simp at h1⟩
      · rw [if_neg e] at hb
        obtain ⟨t', es', g1, g2, g3, g4⟩ := hr.maps b es clk hb
        have hlt := hr.blkLt b t' g1
        exact ⟨t', es', hsub _ _ g1, g2, by rw [heap_alloc_old w _ _ hlt]; exact g3, g4.len, fun i e e' h1 h2 => let ⟨a, b, c, d⟩ := g4.at_ i e e' h1 h2; ⟨a, b, c, d.mono hsub⟩⟩
    · intro b1 b2 x x' t1 t2 hx hx' h1 h2 he
      rw [AH.get_push] at hx hx'
      simp only [grow] at h1 h2
      by_cases e1 : b1 = h.n
      · by_cases e2 : b2 = h.n
        · exact .inl (e1.trans e2.symm)
        · rw [if_pos e1] at h1
          rw [if_neg e2] at h2
          obtain rfl := Option.some.inj h1
          have := hr.blkLt b2 t2 h2
          simp at he; omega
      · rw [if_neg e1] at h1 hx
        by_cases e2 : b2 = h.n
        · rw [if_pos e2] at h2
          obtain rfl := Option.some.inj h2
          have := hr.blkLt b1 t1 h1
          simp at he; omega
        · rw [if_neg e2] at h2 hx'
          exact hr.inj b1 b2 _ _ t1 t2 hx hx' h1 h2 he
    · intro b x hx
      rw [AH.get_push] at hx
      by_cases e : b = h.n
      · simp [AH.push, e]
      · rw [if_neg e] at hx
        have := hr.gets b x hx
        simp [AH.push]; omega
    · intro b c' esz' t' hx ht'
      rw [AH.get_push] at hx
      simp only [grow] at ht'
      by_cases e : b = h.n
      · rw [if_pos e] at ht'
        obtain rfl := Option.some.inj ht'
        rfl
      · rw [if_neg e] at hx ht'
        exact hr.sh0 _ _ _ _ hx ht'
    · intro b m since seen last hb
      rw [AH.get_push] at hb
      by_cases e : b = h.n
      · rw [if_pos e] at hb; cases hb
      · rw [if_neg e] at hb
        obtain ⟨t', cm, g1, g2, g3, g4, g5⟩ := hr.iters b m since seen last hb
        exact ⟨t', cm, hsub _ _ g1, g2, g3, by rw [heap_alloc_old w _ _ (hr.blkLt _ _ g1)]; exact g4, g5.mono hsub⟩

/-- a going-through is set -/
theorem set_iter_good {φ : Emb} {h : AH} {w : World} (hr : HRel φ h w) {r : Nat} {m : Option Nat} {since last since2 last2 : Nat} {seen seen2 : List Nat} (hb : h.get r = some (.iter m since seen last)) {t : Tgt} (ht : φ r = some t) {cm : Option Nat}
    (hv : VR φ (.map m) (.map cm)) : Good φ w (h.set r (some (.iter m since2 seen2 last2))) { w with heap := w.heap.setIfInBounds t.blk (.mapIter cm since2 seen2.toArray last2) } φ := by
  obtain ⟨t0, cm0, h1, hro, hsh0, hw, _⟩ := hr.iters r m since seen last hb
  rw [ht] at h1
  obtain rfl := Option.some.inj h1
  have hlt : t.blk < w.heap.size := hr.blkLt _ _ ht
  have hne : ∀ b x t', b ≠ r → h.get b = some x → φ b = some t' → t'.blk ≠ t.blk := by
    intro b x t' hbr hx ht' he
    rcases hr.inj b r x _ t' t hx hb ht' ht he with e | ⟨_, e⟩
    · exact hbr e
    · rw [hro] at e; cases e
  have hother : ∀ B, B ≠ t.blk → (w.heap.setIfInBounds t.blk (.mapIter cm since2 seen2.toArray last2))[B]? = w.heap[B]? := fun B hB => by rw [Array.getElem?_setIfInBounds_ne (Ne.symm hB)]
  refine ⟨.refl _ _, ⟨rfl, rfl, rfl, by simp, fun B hB hall => ?_⟩, ?_⟩
  · exact hother B fun e => by have := hall r t ht e.symm; rw [hro] at this; cases this
  · refine ⟨hr.lt, fun b t' hb' => by simpa using hr.blkLt b t' hb', ?_, ?_, ?_, ?_, ?_, ?_⟩
    · intro b c op ro esz hbc
      rw [AH.get_set] at hbc
      split at hbc
      · cases hbc
      · rename_i hbr
        obtain ⟨t', g1, g2, g3, g4, g5, g6⟩ := hr.cells b c op ro esz hbc
        have hn := hne b _ t' hbr hbc g1
        refine ⟨t', g1, g2, g3, g4, fun hf => by rw [hother _ hn]; exact g5 hf, fun k v hk => ?_⟩
        obtain ⟨hc, v', h9, h10⟩ := g6 k v hk
        refine ⟨hc, v', ?_, h10⟩
        rw [← h9]
        simp only [World.cell?, hother _ hn]
    · intro b es3 clk3 hbm
      rw [AH.get_set] at hbm
      split at hbm
      · cases hbm
      · rename_i hbr
        obtain ⟨t', es', g1, g2, g3, g4⟩ := hr.maps b es3 clk3 hbm
        exact ⟨t', es', g1, g2, by rw [hother _ (hne b _ t' hbr hbm g1)]; exact g3, g4⟩
    · intro b1 b2 x x' t1 t2 hx hx' h1 h2 he
      rw [AH.get_set] at hx hx'
      have key : ∀ b y, (if b = r then some (Blk.iter m since2 seen2 last2) else h.get b) = some y → ∃ z, h.get b = some z := by
        intro b y hy
        split at hy
        · rename_i e; subst e; exact ⟨_, hb⟩
        · exact ⟨_, hy⟩
      obtain ⟨z1, hz1⟩ := key b1 x hx
      obtain ⟨z2, hz2⟩ := key b2 x' hx'
      exact hr.inj b1 b2 _ _ t1 t2 hz1 hz2 h1 h2 he
    · intro b x hx
      rw [AH.get_set] at hx
      split at hx
      · rename_i e; subst e; exact hr.gets _ _ hb
      · exact hr.gets _ _ hx
    · intro b c' esz' t' hx ht'
      rw [AH.get_set] at hx
      split at hx
      · cases hx
      · exact hr.sh0 _ _ _ _ hx ht'
    · intro b m' since' seen' last' hb'
      rw [AH.get_set] at hb'
      split at hb'
      · rename_i e
        subst e
        simp only [Option.some.injEq, Blk.iter.injEq] at hb'
        obtain ⟨rfl, rfl, rfl, rfl⟩ := hb'
        exact ⟨t, cm, ht, hro, hsh0, by simp [hlt], hv⟩
      · rename_i hbr
        obtain ⟨t', cm, g1, g2, g3, g4, g5⟩ := hr.iters b m' since' seen' last' hb'
        exact ⟨t', cm, g1, g2, g3, by rw [hother _ (hne b _ t' hbr hb' g1)]; exact g4, g5⟩

/-- a new going-through -/
theorem push_iter_good {φ : Emb} {h : AH} {w : World} (hr : HRel φ h w) {m cm : Option Nat} {since last : Nat} {seen : List Nat} (hv : VR φ (.map m) (.map cm)) : Good φ w (h.push (.iter m since seen last)) (w.alloc (.mapIter cm since seen.toArray last)) (grow φ h.n ⟨w.heap.size, 0, 0, 0, false⟩) := by
  have hsub := grow_sub hr ⟨w.heap.size, 0, 0, 0, false⟩
  refine ⟨⟨hsub, fun b t hb => ?_⟩, ⟨rfl, rfl, rfl, by simp, fun B hB _ => heap_alloc_old w _ B hB⟩, ?_⟩
  · simp only [grow] at hb
    split at hb
    · obtain rfl := Option.some.inj hb; exact .inr (.inl (Nat.le_refl _))
    · exact .inl hb
  · have hnew := heap_alloc_new w (.mapIter cm since seen.toArray last)
    refine ⟨?_, ?_, ?_, ?_, ?_, ?_, ?_, ?_⟩
    · intro b t hb
      simp only [grow] at hb
      split at hb
      · rename_i e; simp [AH.push, e]
      · have := hr.lt b t hb; simp [AH.push]; omega
    · intro b t hb
      simp only [grow] at hb
      split at hb
      · obtain rfl := Option.some.inj hb; simp
      · have := hr.blkLt b t hb; simp; omega
    · intro b c' op' ro' esz' hb
      rw [AH.get_push] at hb
      by_cases e : b = h.n
      · subst e; rw [if_pos rfl] at hb; cases hb
      · rw [if_neg e] at hb
        obtain ⟨t', g1, g2, g3, g4, g5, g6⟩ := hr.cells b c' op' ro' esz' hb
        have hlt := hr.blkLt b t' g1
        refine ⟨t', hsub _ _ g1, g2, g3, g4, fun hf => by rw [heap_alloc_old w _ _ hlt]; exact g5 hf, fun k v hk => ?_⟩
        obtain ⟨hc, v', h9, h10⟩ := g6 k v hk
        exact ⟨hc, v', by rw [World.cell?_alloc_lt _ _ _ hlt]; exact h9, h10.mono hsub⟩
    · intro b es clk hb
      rw [AH.get_push] at hb
      by_cases e : b = h.n
      · subst e; rw [if_pos rfl] at hb; cases hb
      · rw [if_neg e] at hb
        obtain ⟨t', es', g1, g2, g3, g4⟩ := hr.maps b es clk hb
        have hlt := hr.blkLt b t' g1
        exact ⟨t', es', hsub _ _ g1, g2, by rw [heap_alloc_old w _ _ hlt]; exact g3, g4.len, fun i e e' h1 h2 => let ⟨a, b, c, d⟩ := g4.at_ i e e' h1 h2; ⟨a, b, c, d.mono hsub⟩⟩
    · intro b1 b2 x x' t1 t2 hx hx' h1 h2 he
      rw [AH.get_push] at hx hx'
      simp only [grow] at h1 h2
      by_cases e1 : b1 = h.n
      · by_cases e2 : b2 = h.n
        · exact .inl (e1.trans e2.symm)
        · rw [if_pos e1] at h1
          rw [if_neg e2] at h2
          obtain rfl := Option.some.inj h1
          have := hr.blkLt b2 t2 h2
          simp at he; omega
      · rw [if_neg e1] at h1 hx
        by_cases e2 : b2 = h.n
        · rw [if_pos e2] at h2
          obtain rfl := Option.some.inj h2
          have := hr.blkLt b1 t1 h1
          simp at he; omega
        · rw [if_neg e2] at h2 hx'
          exact hr.inj b1 b2 _ _ t1 t2 hx hx' h1 h2 he
    · intro b x hx
      rw [AH.get_push] at hx
      by_cases e : b = h.n
      · simp [AH.push, e]
      · rw [if_neg e] at hx
        have := hr.gets b x hx
        simp [AH.push]; omega
    · intro b c' esz' t' hx ht'
      rw [AH.get_push] at hx
      simp only [grow] at ht'
      by_cases e : b = h.n
      · rw [if_pos e] at ht'
        obtain rfl := Option.some.inj ht'
        rfl
      · rw [if_neg e] at hx ht'
        exact hr.sh0 _ _ _ _ hx ht'
    · intro b m' since' seen' last' hb
      rw [AH.get_push] at hb
      by_cases e : b = h.n
      · subst e
        rw [if_pos rfl] at hb
        simp only [Option.some.injEq, Blk.iter.injEq] at hb
        obtain ⟨rfl, rfl, rfl, rfl⟩ := hb
        exact ⟨_, cm, grow_new φ h.n _, rfl, rfl, hnew, hv.mono hsub⟩
      · rw [if_neg e] at hb
        obtain ⟨t', cm, g1, g2, g3, g4, g5⟩ := hr.iters b m' since' seen' last' hb
        exact ⟨t', cm, hsub _ _ g1, g2, g3, by rw [heap_alloc_old w _ _ (hr.blkLt _ _ g1)]; exact g4, g5.mono hsub⟩

/-- entries that turned -/
theorem putE_rel {φ : Emb} {d : TypeDesc} {k v c : Value} (hk : keyOk d k = true) (hv : VR φ v c) {es : List MapEntry} {es' : Array MapEntry} {clk : Nat} (hm : MapRel φ es es'.toList) (ho : keysOk d es = true) :
    ∃ es2', MapRel φ (putE k v es clk).1 es2'.toList ∧ ∀ {P : Program} {w : World} {t kt e : TypeId} {r : Nat}, P.underlying t = some (.map kt e) → P.underlying kt = some d → w.heap[r]? = some (.map es' clk) →
      (Instr.mapUpdate t (.map (some r)) k c).run P w = .ok () { w with heap := w.heap.setIfInBounds r (.map es2' (putE k v es clk).2) } := by
  unfold putE
  cases hf : afind k es 0 with
  | none =>
    refine ⟨es'.push ⟨k, c, clk⟩, ⟨by simp [hm.len], fun i e e' h1 h2 => ?_⟩, fun hd hkd hw => ?_⟩
    · simp only [Array.toList_push] at h2
      have hlen := hm.len
      rcases Nat.lt_or_ge i es.length with hi | hi
      · rw [List.getElem?_append_left hi] at h1
        rw [List.getElem?_append_left (by omega)] at h2
        exact hm.at_ i e e' h1 h2
      · rw [List.getElem?_append_right hi] at h1
        rw [List.getElem?_append_right (by omega)] at h2
        rw [hlen] at h1
        cases hj : i - es'.toList.length with
        | zero =>
          rw [hj] at h1 h2
          simp only [List.getElem?_cons_zero, Option.some.injEq] at h1 h2
          subst h1
          subst h2
          exact ⟨keyOk_flat hk, rfl, rfl, hv⟩
        | succ j => rw [hj] at h1; simp at h1
    · have h1 := afind_none hk hm ho hf
      simp [Instr.mapUpdate, Go.run_underlying hd, run_getObj_map hw, run_checkKey hkd (keyOk_isKey hk), run_findKey hkd h1, run_setObj_map _ hw, Result.andThen]
  | some p =>
    obtain ⟨j, e, e', rfl, g2, g3, g4, g5, g6⟩ := afind_some hk hm ho hf
    simp only [Nat.zero_add] at g5 ⊢
    refine ⟨es'.modify j (fun x => { x with key := k, val := c }), ⟨by simp [hm.len], fun i x x' h1 h2 => ?_⟩, fun hd hkd hw => ?_⟩
    · simp only [Array.toList_modify, List.getElem?_modify] at h1 h2
      by_cases hij : j = i
      · subst hij
        simp only [g2, if_true, Option.map_eq_map, Option.map_some, Option.some.injEq] at h1
        simp only [g3, if_true, Option.map_eq_map, Option.map_some, Option.some.injEq] at h2
        subst h1
        subst h2
        obtain ⟨_, _, q3, _⟩ := hm.at_ j e e' g2 g3
        exact ⟨keyOk_flat hk, rfl, q3, hv⟩
      · simp only [if_neg hij, Option.map_eq_map, Option.map_id'] at h1 h2
        exact hm.at_ i x x' (by simpa using h1) (by simpa using h2)
    · have hj : es'[j]? = some e' := by simpa using g3
      have hke : e'.key = k := by obtain ⟨_, q2, _, _⟩ := hm.at_ j e e' g2 g3; rw [q2, g4]
      simp [Instr.mapUpdate, Go.run_underlying hd, run_getObj_map hw, run_checkKey hkd (keyOk_isKey hk), run_findKey hkd g5, hj, hke, run_keyThatStays (keyOk_isKey hk), run_setObj_map _ hw, Result.andThen]
theorem delE_rel {φ : Emb} {d : TypeDesc} {k : Value} (hk : keyOk d k = true) {es : List MapEntry} {es' : Array MapEntry} {clk : Nat} (hm : MapRel φ es es'.toList) (ho : keysOk d es = true) :
    ∃ es2', MapRel φ (delE k es) es2'.toList ∧ ∀ {P : Program} {w : World} {t kt e tk ty : TypeId} {r : Nat}, P.underlying t = some (.map kt e) → P.underlying kt = some d → w.heap[r]? = some (.map es' clk) →
      (Builtin.delete_ #[t, tk] ty #[.map (some r), k]).run P w = .ok (.tuple #[]) { w with heap := w.heap.setIfInBounds r (.map es2' clk) } := by
  unfold delE
  cases hf : afind k es 0 with
  | none =>
    refine ⟨es', hm, fun hd hkd hw => ?_⟩
    have h1 := afind_none hk hm ho hf
    simp [Builtin.delete_, Go.run_underlying hd, run_getObj_map hw, run_checkKey hkd (keyOk_isKey hk), run_findKey hkd h1, run_setObj_map _ hw, Result.andThen]
  | some p =>
    obtain ⟨j, e, e', rfl, g2, g3, g4, g5, g6⟩ := afind_some hk hm ho hf
    simp only [Nat.zero_add] at g5 ⊢
    have hjs : j < es'.size := by simpa using (List.getElem?_eq_some_iff.1 g3).1
    have hsub : (es'.eraseIdxIfInBounds j).toList = es'.toList.eraseIdx j := by
      unfold Array.eraseIdxIfInBounds
      rw [dif_pos hjs]
      simp
    refine ⟨es'.eraseIdxIfInBounds j, ⟨?_, fun i x x' h1 h2 => ?_⟩, fun hd hkd hw => ?_⟩
    · rw [hsub]
      have hl := hm.len
      simp only [List.length_eraseIdx, hl]
    · rw [hsub] at h2
      rw [List.getElem?_eraseIdx] at h1 h2
      split at h1
      · rename_i hi; rw [if_pos hi] at h2; exact hm.at_ i x x' h1 h2
      · rename_i hi; rw [if_neg hi] at h2; exact hm.at_ (i + 1) x x' h1 h2
    · simp [Builtin.delete_, Go.run_underlying hd, run_getObj_map hw, run_checkKey hkd (keyOk_isKey hk), run_findKey hkd g5, run_setObj_map _ hw, Result.andThen]

section
variable {P : Program} {φ : Emb} {h : AH} {w : World} {a : Act} {tm : T Value} {nt : Nat} {K : Option Value → AH → Res} {r : Value × AH} {O : Orc} {dst : Option Tmp} {ty : TypeId} {pos : String} {after : Array Edge} {guard : Option (Nat × Bool)}

theorem adel_sound {t tk ty e : TypeId} {d : TypeDesc} {m k m' k' : Value} {h' : AH} (hr : HRel φ h w) (hty : mapTy P t = some (d, e)) (hm : VR φ m m') (hk : VR φ k k') (hd : adel d m k h = some h') :
    ∃ w', (Builtin.delete_ #[t, tk] ty #[m', k']).run P w = .ok (.tuple #[]) w' ∧ Good φ w h' w' φ := by
  obtain ⟨kt, h1, h2⟩ := mapTy_inv hty
  unfold adel at hd
  split at hd
  · obtain rfl := vr_nilM hm
    cases hb : keyOk d k with
    | false => rw [hb, cond_false] at hd; cases hd
    | true =>
      rw [hb, cond_true] at hd
      obtain rfl := Option.some.inj hd
      obtain rfl := vr_key hb hk
      exact ⟨w, by simp [Builtin.delete_, Go.run_underlying h1, run_checkKey h2 (keyOk_isKey hb), Result.andThen], .refl hr⟩
  · rename_i b
    obtain ⟨tg, g1, rfl⟩ := vr_map hm
    split at hd
    · rename_i es clk hget
      cases hb : (keyOk d k && keysOk d es) with
      | false => rw [hb, cond_false] at hd; cases hd
      | true =>
        rw [hb, cond_true] at hd
        obtain rfl := Option.some.inj hd
        rw [Bool.and_eq_true] at hb
        obtain rfl := vr_key hb.1 hk
        obtain ⟨t0, es', q1, q2, q3, q4⟩ := hr.maps b es clk hget
        rw [g1] at q1
        obtain rfl := Option.some.inj q1
        obtain ⟨es2', p1, p2⟩ := delE_rel hb.1 (clk := clk) q4 hb.2
        exact ⟨_, p2 h1 h2 q3, set_map_good hr hget g1 p1⟩
    · cases hd
  · cases hd

theorem ok_mapUpdate {t : TypeId} {m k x : Operand} (hr : HRel φ h w) (ht : TR φ tm nt a.tmps) (hk : evOp P O tm (.mapUpdate t m k x) h K = some r) : OpOK P φ h w a ⟨dst, .mapUpdate t m k x, ty, pos, after, guard⟩ K r := by
  simp only [evOp, Option.bind_eq_some_iff] at hk
  obtain ⟨mv, hm, kv, hkv, v, hv, ⟨d, e⟩, hty, h', hput, hk⟩ := hk
  obtain ⟨kt, h1, h2⟩ := mapTy_inv hty
  have hmr := opv_rel ht hm
  have hkr := opv_rel ht hkv
  unfold aput at hput
  split at hput
  · rename_i b
    obtain ⟨tg, g1, hmc⟩ := vr_map hmr
    split at hput
    · rename_i es clk hget
      cases hb : (keyOk d kv && keysOk d es) with
      | false => rw [hb, cond_false] at hput; cases hput
      | true =>
        rw [hb, cond_true] at hput
        obtain rfl := Option.some.inj hput
        rw [Bool.and_eq_true] at hb
        have hkc := vr_key hb.1 hkr
        obtain ⟨t0, es', q1, q2, q3, q4⟩ := hr.maps b es clk hget
        rw [g1] at q1
        obtain rfl := Option.some.inj q1
        obtain ⟨es2', p1, p2⟩ := putE_rel hb.1 (opv_rel ht hv) (clk := clk) q4 hb.2
        refine ⟨φ, none, _, undef, _, .inr ⟨?_, rfl⟩, set_map_good (clk2 := (putE kv v es clk).2) hr hget g1 p1, (fun x hx => nomatch hx), hk⟩
        simp only [execOp, hmc, hkc]
        simp [p2 h1 h2 q3]
    · cases hput
  · cases hput

theorem ok_makeMap {t : TypeId} {x : Option Operand} (hr : HRel φ h w) (ht : TR φ tm nt a.tmps) (hk : evOp P O tm (.makeMap t x) h K = some r) : OpOK P φ h w a ⟨dst, .makeMap t x, ty, pos, after, guard⟩ K r := by
  simp only [evOp, Option.bind_eq_some_iff] at hk
  obtain ⟨v, hx, hk⟩ := hk
  cases hb : (intO v && isMapT P t) with
  | false => rw [hb, cond_false] at hk; cases hk
  | true =>
    rw [hb, cond_true] at hk
    rw [Bool.and_eq_true] at hb
    refine .good (c := .map (some w.heap.size)) (w' := w.alloc (.map #[] 0)) (run_v ?_) (push_map_good hr) (.map (grow_new φ h.n ⟨w.heap.size, 0, 0, 0, false⟩)) hk
    have hT : ∃ k e, P.underlying t = some (.map k e) := by
      have := hb.2
      unfold isMapT at this
      split at this
      · exact ⟨_, _, by assumption⟩
      · cases this
    obtain ⟨kt, e, hu⟩ := hT
    cases x with
    | none => simp [Instr.makeMap, Result.andThen]
    | some o =>
      simp only [optv, Option.bind_eq_some_iff, Option.some.injEq] at hx
      obtain ⟨u, hu1, rfl⟩ := hx
      have := hb.1
      unfold intO at this
      split at this
      · rename_i e; cases e
      · rename_i k n e
        obtain rfl := Option.some.inj e
        have hc := vr_int (opv_rel ht hu1)
        simp [Instr.makeMap, Result.andThen, hc, Go.run_underlying hu, asInt, asIntOf]
      · cases this

theorem ok_lookup {t : TypeId} {x i : Operand} {ok : Bool} (hr : HRel φ h w) (ht : TR φ tm nt a.tmps) (hk : evOp P O tm (.lookup t x i ok) h K = some r) : OpOK P φ h w a ⟨dst, .lookup t x i ok, ty, pos, after, guard⟩ K r := by
  simp only [evOp, Option.bind_eq_some_iff] at hk
  obtain ⟨mv, hm, kv, hkv, ⟨d, e⟩, hty, es, hes, ⟨v, b⟩, hl, hk⟩ := hk
  have hk := castT_inv hk
  obtain ⟨kt, h1, h2⟩ := mapTy_inv hty
  have hmr := opv_rel ht hm
  have hkr := opv_rel ht hkv
  -- the entries in the world
  obtain ⟨es', hmrel, hget⟩ : ∃ es' : Array MapEntry, MapRel φ es es'.toList ∧ ((a.eval x = .map none ∧ es' = #[]) ∨ ∃ r' clk, a.eval x = .map (some r') ∧ w.heap[r']? = some (.map es' clk)) := by
    unfold mapOf at hes
    split at hes
    · obtain rfl := Option.some.inj hes
      exact ⟨#[], ⟨rfl, fun i e e' h1 => by simp at h1⟩, .inl ⟨vr_nilM hmr, rfl⟩⟩
    · rename_i b'
      split at hes
      · rename_i es0 clk hb
        obtain rfl := Option.some.inj hes
        obtain ⟨tg, g1, hmc⟩ := vr_map hmr
        obtain ⟨t0, es', q1, q2, q3, q4⟩ := hr.maps b' es0 clk hb
        rw [g1] at q1
        obtain rfl := Option.some.inj q1
        exact ⟨es', q4, .inr ⟨_, clk, hmc, q3⟩⟩
      · cases hes
    · cases hes
  unfold lookE at hl
  cases hb : (keyOk d kv && keysOk d es) with
  | false => rw [hb, cond_false] at hl; cases hl
  | true =>
    rw [hb, cond_true] at hl
    rw [Bool.and_eq_true] at hb
    have hkc := vr_key hb.1 hkr
    have hrun : ∃ c, VR φ v c ∧ (Instr.lookup t (a.eval x) (a.eval i) ok).run P w = .ok (if ok then .tuple #[c, .bool b] else c) w := by
      cases hf : afind kv es 0 with
      | none =>
        rw [hf] at hl
        simp only [Option.bind_eq_some_iff, Option.some.injEq, Prod.mk.injEq] at hl
        obtain ⟨z, hz, rfl, rfl⟩ := hl
        unfold zeroOf at hz
        simp only [Option.bind_eq_some_iff] at hz
        obtain ⟨inf, hi, z', hz', hc⟩ := hz
        cases hfl : flat z' with
        | false => rw [hfl, cond_false] at hc; cases hc
        | true =>
          rw [hfl, cond_true] at hc
          obtain rfl := Option.some.inj hc
          refine ⟨z', flat_VR hfl, ?_⟩
          have hfn := afind_none hb.1 hmrel hb.2 hf
          rcases hget with ⟨e1, rfl⟩ | ⟨r', clk, e1, hw⟩
          · simp [Instr.lookup, Go.run_underlying h1, e1, hkc, run_checkKey h2 (keyOk_isKey hb.1), run_findKey h2 hfn, run_zeroValue' hi hz', Result.andThen]
          · simp [Instr.lookup, Go.run_underlying h1, e1, hkc, run_getObj_map hw, run_checkKey h2 (keyOk_isKey hb.1), run_findKey h2 hfn, run_zeroValue' hi hz', Result.andThen]
      | some p =>
        rw [hf] at hl
        simp only [Option.some.injEq, Prod.mk.injEq] at hl
        obtain ⟨rfl, rfl⟩ := hl
        obtain ⟨j, e0, e0', rfl, g2, g3, g4, g5, g6⟩ := afind_some hb.1 hmrel hb.2 hf
        refine ⟨e0'.val, g6, ?_⟩
        rcases hget with ⟨e1, rfl⟩ | ⟨r', clk, e1, hw⟩
        · simp at g3
        · simp [Instr.lookup, Go.run_underlying h1, e1, hkc, run_getObj_map hw, run_checkKey h2 (keyOk_isKey hb.1), run_findKey h2 g5, Result.andThen]
    obtain ⟨c, hc, hrun⟩ := hrun
    refine .value hr (run_v hrun) ?_ hk
    cases ok with
    | false => exact hc
    | true =>
      simp only [cond_true, if_true]
      exact .tuple rfl fun i v1 v2 h1 h2 => by
        match i with
        | 0 => simp at h1 h2; subst h1; subst h2; exact hc
        | 1 => simp at h1 h2; subst h1; subst h2; exact .bool _
        | n + 2 => simp at h1
end
end Go.Lg
/-! going through a map -/
namespace Go.Lg
open Go Go.MapKept
theorem MapRel.tl {φ : Emb} {e e' : MapEntry} {es es' : List MapEntry} (h : MapRel φ (e :: es) (e' :: es')) : MapRel φ es es' :=
  ⟨by simpa using h.len, fun i a b h1 h2 => h.at_ (i + 1) a b (by simpa using h1) (by simpa using h2)⟩
theorem MapRel.hd {φ : Emb} {e e' : MapEntry} {es es' : List MapEntry} (h : MapRel φ (e :: es) (e' :: es')) : flat1 e.key = true ∧ e'.key = e.key ∧ e'.born = e.born ∧ VR φ e.val e'.val := h.at_ 0 e e' rfl rfl
theorem MapRel.cons {φ : Emb} {e e' : MapEntry} {es es' : List MapEntry} (h : flat1 e.key = true ∧ e'.key = e.key ∧ e'.born = e.born ∧ VR φ e.val e'.val) (hm : MapRel φ es es') : MapRel φ (e :: es) (e' :: es') := by
  refine ⟨by simp [hm.len], fun i a b h1 h2 => ?_⟩
  cases i with
  | zero =>
    obtain rfl := Option.some.inj h1
    obtain rfl := Option.some.inj h2
    exact h
  | succ i => exact hm.at_ i a b (by simpa using h1) (by simpa using h2)
theorem MapRel.filter {φ : Emb} (p : Nat → Bool) : ∀ {es es' : List MapEntry}, MapRel φ es es' → MapRel φ (es.filter fun e => p e.born) (es'.filter fun e => p e.born)
  | [], [], h => h
  | [], _ :: _, h => by have := h.len; simp at this
  | _ :: _, [], h => by have := h.len; simp at this
  | e :: es, e' :: es', h => by
    have h1 := h.hd
    have h2 := MapRel.filter p h.tl
    simp only [List.filter_cons, h1.2.2.1]
    cases p e.born with
    | true => exact .cons h1 h2
    | false => exact h2
theorem MapRel.all {φ : Emb} (p : Nat → Bool) : ∀ {es es' : List MapEntry}, MapRel φ es es' → (es'.all fun e => p e.born) = es.all fun e => p e.born
  | [], [], h => rfl
  | [], _ :: _, h => by have := h.len; simp at this
  | _ :: _, [], h => by have := h.len; simp at this
  | e :: es, e' :: es', h => by
    simp only [List.all_cons, h.hd.2.2.1, MapRel.all p h.tl]
theorem MapRel.find {φ : Emb} (p : Nat → Bool) : ∀ {es es' : List MapEntry} {e : MapEntry}, MapRel φ es es' → (es.find? fun e => p e.born) = some e →
    ∃ e', (es'.find? fun e => p e.born) = some e' ∧ flat1 e.key = true ∧ e'.key = e.key ∧ e'.born = e.born ∧ VR φ e.val e'.val
  | [], [], e, h, hf => by cases hf
  | [], _ :: _, e, h, hf => by cases hf
  | _ :: _, [], e, h, hf => by have := h.len; simp at this
  | x :: es, x' :: es', e, h, hf => by
    have h1 := h.hd
    rw [List.find?_cons] at hf ⊢
    rw [h1.2.2.1]
    cases hp : p x.born with
    | true =>
      rw [hp] at hf
      obtain rfl := Option.some.inj hf
      exact ⟨x', rfl, h1⟩
    | false =>
      rw [hp] at hf
      exact MapRel.find p h.tl hf

/-- the block of a going-through -/
theorem iter_at {φ : Emb} {h : AH} {w : World} (hr : HRel φ h w) {b : Nat} {c : Value} {m : Option Nat} {since last : Nat} {seen : List Nat} (hv : VR φ (.pointer (some ⟨b, 0, none⟩)) c) (hb : h.get b = some (.iter m since seen last)) :
    ∃ t cm, φ b = some t ∧ c = .pointer (some ⟨t.blk, 0, none⟩) ∧ w.heap[t.blk]? = some (.mapIter cm since seen.toArray last) ∧ VR φ (.map m) (.map cm) := by
  obtain ⟨t, h1, _, h2⟩ := vr_ptr hv
  obtain ⟨t', cm, g1, g2, g3, g4, g5⟩ := hr.iters b m since seen last hb
  simp only at h1
  rw [g1] at h1
  obtain rfl := Option.some.inj h1
  refine ⟨t', cm, g1, ?_, g4, g5⟩
  rw [h2]
  simp [g3]
theorem map_at {φ : Emb} {h : AH} {w : World} (hr : HRel φ h w) {m : Nat} {cm : Option Nat} {es : List MapEntry} {clk : Nat} (hv : VR φ (.map (some m)) (.map cm)) (hb : h.get m = some (.map es clk)) :
    ∃ k es', cm = some k ∧ w.heap[k]? = some (.map es' clk) ∧ MapRel φ es es'.toList := by
  obtain ⟨t, h1, h2⟩ := vr_map hv
  obtain ⟨t', es', g1, g2, g3, g4⟩ := hr.maps m es clk hb
  rw [g1] at h1
  obtain rfl := Option.some.inj h1
  simp only [Value.map.injEq] at h2
  exact ⟨_, es', h2, g3, g4⟩

theorem run_range {P : Program} {φ : Emb} {h h' : AH} {w : World} (hr : HRel φ h w) {t kt et : TypeId} (hu : P.underlying t = some (.map kt et)) {m : Option Nat} {c : Value} (hv : VR φ (.map m) c) (hk : rngE m h = some h') :
    ∃ w' φ', (Instr.range t c).run P w = .ok (.pointer (some ⟨w.heap.size, 0, none⟩)) w' ∧ Good φ w h' w' φ' ∧ VR φ' (.pointer (some ⟨h.n, 0, none⟩)) (.pointer (some ⟨w.heap.size, 0, none⟩)) := by
  cases m with
  | none =>
    obtain rfl := vr_nilM hv
    simp only [rngE, Option.some.injEq] at hk
    subst hk
    exact ⟨_, _, by simp [Instr.range, run_underlying' hu], push_iter_good (seen := []) hr hv, .ptr (t := ⟨w.heap.size, 0, 0, 0, false⟩) (o := 0) (grow_new φ h.n _)⟩
  | some r =>
    obtain ⟨tg, h1, rfl⟩ := vr_map hv
    unfold rngE at hk
    simp only at hk
    split at hk
    · rename_i es clk hb
      obtain rfl := Option.some.inj hk
      obtain ⟨k, es', h2, h3, h4⟩ := map_at hr hv hb
      obtain rfl := Option.some.inj h2
      exact ⟨_, _, by simp [Instr.range, run_underlying' hu, run_getObj_map h3], push_iter_good (seen := []) hr hv, .ptr (t := ⟨w.heap.size, 0, 0, 0, false⟩) (o := 0) (grow_new φ h.n _)⟩
    · cases hk

theorem run_entry {P : Program} {φ : Emb} {h : AH} {w : World} (hr : HRel φ h w) {v c : Value} {u : Value × Value} (hv : VR φ v c) (hk : entC v h = some u) :
    ∃ c', (Instr.entry c).run P w = .ok c' w ∧ VR φ (.tuple #[u.1, u.2]) c' := by
  unfold entC at hk
  split at hk
  · rename_i b
    split at hk
    · rename_i m since seen last hb
      split at hk
      · rename_i st es clk hl hm
        cases hc : Nat.beq clk last with
        | false => rw [hc] at hk; cases hk
        | true =>
          rw [hc, cond_true, Option.bind_eq_some_iff] at hk
          obtain ⟨e, h1, h2⟩ := hk
          obtain rfl := Option.some.inj h2
          obtain rfl := Nat.eq_of_beq_eq_true hc
          obtain ⟨t, cm, g1, rfl, g3, g4⟩ := iter_at hr hv hb
          obtain ⟨k, es', rfl, g5, g6⟩ := map_at hr g4 hm
          obtain ⟨e', g7, g8, g9, g10, g11⟩ := g6.find (fun n => n == st) h1
          refine ⟨.tuple #[e'.key, e'.val], ?_, .tuple rfl (fun i v v' e1 e2 => ?_)⟩
          rotate_left
          · rw [g9] at e2
            match i, e1, e2 with
            | 0, e1, e2 =>
              simp at e1 e2
              subst e1
              subst e2
              exact flat1_VR g8
            | 1, e1, e2 =>
              simp at e1 e2
              subst e1
              subst e2
              exact g11
            | n + 2, e1, e2 => simp at e1
          have hbk : (seen.toArray).back? = some st := by simpa using hl
          rw [Array.find?_toList] at g7
          simp only [Instr.entry, getObj, Sem.run_bind, Sem.run, g3, g5, Result.andThen, hbk, bne_self_eq_false, Bool.false_eq_true, if_false, g7]
          rfl
      · cases hk
    · cases hk
  · cases hk

theorem run_next {P : Program} {φ : Emb} {h h0 : AH} {w : World} (hr : HRel φ h w) {v c : Value} {ty : TypeId} {l : List (Value × Value × AH)} (hv : VR φ v c) (hk : nxC v h = some (h0, l)) :
    (l = [] ∧ (Instr.next c false ty).run P w = .ok (.tuple #[.bool false]) w ∧ Good φ w h0 w φ) ∨
    ∃ q ∈ l, ∃ ck cv w', (Instr.next c false ty).run P w = .ok (.tuple #[.bool true, ck, cv]) w' ∧ Good φ w q.2.2 w' φ ∧ VR φ q.1 ck ∧ VR φ q.2.1 cv := by
  unfold nxC at hk
  split at hk
  · rename_i b
    split at hk
    · rename_i since seen last hb
      simp only [Option.some.injEq, Prod.mk.injEq] at hk
      obtain ⟨rfl, rfl⟩ := hk
      obtain ⟨t, cm, g1, rfl, g3, g4⟩ := iter_at hr hv hb
      have hcm : cm = none := by have := vr_nilM g4; simpa using this
      subst hcm
      refine .inl ⟨rfl, ?_, ⟨.refl _ _, .refl _ _, forget_rel hr b⟩⟩
      simp only [Instr.next, getObj, Sem.run_bind, Sem.run, g3, Result.andThen]
      rfl
    · rename_i m since seen last hb
      split at hk
      · rename_i es clk hm
        obtain ⟨t, cm, g1, rfl, g3, g4⟩ := iter_at hr hv hb
        obtain ⟨k, es', rfl, g5, g6⟩ := map_at hr g4 hm
        cases hA : (!seen.isEmpty && !es.isEmpty && es.all (fun e => Nat.ble last e.born)) with
        | true => rw [hA] at hk; cases hk
        | false =>
        rw [hA, cond_false] at hk
        have hA' : (!(seen.toArray).isEmpty && !es'.isEmpty && es'.all (fun x => decide (x.born ≥ last))) = false := by
          rw [← hA]
          have e1 : es'.isEmpty = es.isEmpty := by
            have := g6.len
            rw [Array.length_toList (xs := es')] at this
            unfold Array.isEmpty
            rw [← this]
            cases es <;> rfl
          have e2 : es'.all (fun x => decide (x.born ≥ last)) = es.all (fun e => Nat.ble last e.born) := by
            rw [← Array.all_toList, ← g6.all (fun n => Nat.ble last n)]
            congr 1
            funext e
            rw [Bool.eq_iff_iff]
            simp [Nat.ble_eq]
          have e3 : (seen.toArray).isEmpty = seen.isEmpty := by cases seen <;> simp
          rw [e1, e2, e3]
        have g7 := g6.filter fun n => !seen.contains n
        have e0 : (es'.filter fun e => !(seen.toArray).contains e.born).toList = es'.toList.filter fun e => !seen.contains e.born := by
          rw [Array.toList_filter]
          congr 1
          funext e
          simp
        generalize hL : (es.filter fun e => !seen.contains e.born) = L at hk g7
        generalize hL' : (es'.filter fun e => !(seen.toArray).contains e.born) = L' at e0
        rw [← e0] at g7
        cases hB : L.all (fun e => Nat.blt e.born since) with
        | false => rw [hB] at hk; cases hk
        | true =>
        rw [hB, cond_true] at hk
        have hB' : ∀ x ∈ L', x.born < since := by
          have := g7.all (fun n => Nat.blt n since)
          rw [hB, List.all_eq_true] at this
          intro x hx
          exact Nat.le_of_ble_eq_true (this x (by simpa using hx))
        have e1 : L'.filter (fun x => decide (x.born < since)) = L' := Array.filter_eq_self.2 (fun x hx => by simpa using hB' x hx)
        have e2 : L'.filter (fun x => decide (x.born ≥ since)) = #[] := by
          rw [Array.filter_eq_empty_iff]
          intro x hx
          have := hB' x hx
          simp
          omega
        have hlen : L.length = L'.size := by rw [g7.len, Array.length_toList]
        cases hC : L.isEmpty with
        | true =>
          rw [hC, cond_true] at hk
          simp only [Option.some.injEq, Prod.mk.injEq] at hk
          obtain ⟨rfl, rfl⟩ := hk
          have h0 : L' = #[] := Array.eq_empty_of_size_eq_zero (by rw [← hlen]; simpa using hC)
          refine .inl ⟨rfl, ?_, ⟨.refl _ _, .refl _ _, forget_rel hr b⟩⟩
          simp only [Instr.next, getObj, Sem.run_bind, Sem.run, g3, g5, Result.andThen, hA', Bool.false_eq_true, if_false, hL', h0]
          simp [choose, Sem.run, Question.forced]
        | false =>
          rw [hC, cond_false] at hk
          simp only [Option.some.injEq, Prod.mk.injEq] at hk
          obtain ⟨rfl, rfl⟩ := hk
          have hne : L'.isEmpty = false := by
            cases L with
            | nil => simp at hC
            | cons a l => simp at hlen; simp [Array.isEmpty, ← hlen]
          have hpos : 0 < L'.size := by
            cases L with
            | nil => simp at hC
            | cons a l => simp at hlen; omega
          have hch : ∃ (j : Nat) (w1 : World), j < L'.size ∧ (w1 = w ∨ w1 = w.drew) ∧ (choose (Question.mapNext L'.size)).run P w = .ok j w1 := by
            by_cases hf : L'.size ≤ 1
            · exact ⟨0, w, hpos, .inl rfl, by simp [choose, Sem.run, Question.forced, hf]⟩
            · exact ⟨_, w.drew, Nat.mod_lt _ hpos, .inr rfl, by
                simp only [choose, Sem.run, Question.forced, decide_eq_true_eq, hf, if_false, Question.cut]
                rfl⟩
          obtain ⟨j, w1, hj, hw1, hrun⟩ := hch
          have hj' : j < L.length := by omega
          obtain ⟨q1, q2, q3, q4⟩ := g7.at_ j L[j] L'[j] (by simp) (by simp [hj])
          have hr1 : HRel φ h w1 ∧ Good φ w h w1 φ ∧ w1.heap = w.heap := by
            rcases hw1 with rfl | rfl
            · exact ⟨hr, .refl hr, rfl⟩
            · exact ⟨hr.drew, .drew hr, rfl⟩
          obtain ⟨hr1, hg1, hh1⟩ := hr1
          have hset := set_iter_good (since2 := since) (last2 := clk) (seen2 := seen ++ [L[j].born]) hr1 hb g1 g4
          refine .inr ⟨(L[j].key, L[j].val, h.set b (some (.iter (some m) since (seen ++ [L[j].born]) clk))), List.mem_map.2 ⟨L[j], List.getElem_mem hj', rfl⟩, L'[j].key, L'[j].val, _, ?_, hg1.trans hset, ?_, q4⟩
          · have e3 : (seen ++ [L[j].born]).toArray = seen.toArray.push L'[j].born := by rw [q3]; simp
            have hs : (setObj t.blk (.mapIter (some k) since (seen.toArray.push L'[j].born) clk)).run P w1 = .ok () { w1 with heap := w1.heap.setIfInBounds t.blk (.mapIter (some k) since (seen.toArray.push L'[j].born) clk) } := by
              simp only [setObj, Sem.run, hh1, g3]
            rw [e3]
            simp only [Instr.next, getObj, Sem.run_bind, Sem.run, g3, g5, Result.andThen, hA', Bool.false_eq_true, if_false, hL', e1, e2, Array.append_empty, hne, Array.empty_append, Array.size_map, hrun, Array.getElem?_map, Array.getElem?_eq_getElem hj, Option.map_some, hs]
            rfl
          · rw [q2]; exact flat1_VR q1
      · cases hk
    · cases hk
  · cases hk

section
variable {P : Program} {φ : Emb} {h : AH} {w : World} {a : Act} {tm : T Value} {nt : Nat} {K : Option Value → AH → Res} {r : Value × AH} {O : Orc}
  {dst : Option Tmp} {ty : TypeId} {pos : String} {after : Array Edge} {guard : Option (Nat × Bool)}
theorem ok_range {t : TypeId} {x : Operand} (hr : HRel φ h w) (ht : TR φ tm nt a.tmps) (hk : evOp P O tm (.range t x) h K = some r) : OpOK P φ h w a ⟨dst, .range t x, ty, pos, after, guard⟩ K r := by
  simp only [evOp, Option.bind_eq_some_iff] at hk
  obtain ⟨h', h1, h2⟩ := hk
  unfold rngX at h1
  split at h1
  · rename_i kt et hu
    split at h1
    · rename_i m hx
      obtain ⟨w', φ', h3, h4, h5⟩ := run_range (P := P) hr hu (opv_rel ht hx) h1
      exact .good (run_v h3) h4 h5 h2
    · cases h1
  · cases h1
theorem ok_entry {x : Operand} (hr : HRel φ h w) (ht : TR φ tm nt a.tmps) (hk : evOp P O tm (.entry x) h K = some r) : OpOK P φ h w a ⟨dst, .entry x, ty, pos, after, guard⟩ K r := by
  simp only [evOp, Option.bind_eq_some_iff] at hk
  obtain ⟨v, h1, u, h2, h3⟩ := hk
  obtain ⟨c', h4, h5⟩ := run_entry (P := P) hr (opv_rel ht h1) h2
  exact .value hr (run_v h4) h5 h3
end
end Go.Lg

namespace Go.Lg
open Go

section
variable {P : Program} {φ : Emb} {h : AH} {w : World} {a : Act} {tm : T Value} {nt : Nat} {K : Value → AH → Res} {r : Value × AH}

theorem run_builtin_v {b : Builtin} {ats : Array TypeId} {ty : TypeId} {cs : Array Bool} {args : Array Value} {s : Sem Value} {w' : World} {c : Value}
    (hb : builtin b ats ty cs args = (do pure (.value (← s)))) (hs : s.run P w = .ok c w') : (builtin b ats ty cs args).run P w = .ok (.value c) w' := by
  rw [hb]; simp [hs]

theorem evBuiltin_sound {b : Builtin} {ats : Array TypeId} {as : Array Operand} {ty : TypeId} {cst : Array Bool} (hr : HRel φ h w) (ht : TR φ tm nt a.tmps) (hk : evBuiltin P tm b ats.toList as.toList h K = some r) :
    ∃ φ' v h' c w', (builtin b ats ty cst (as.map a.eval)).run P w = .ok (.value c) w' ∧ Good φ w h' w' φ' ∧ VR φ' v c ∧ K v h' = some r := by
  obtain ⟨ats⟩ := ats
  obtain ⟨as⟩ := as
  simp only at hk
  unfold evBuiltin at hk
  split at hk
  · rename_i t tx s x
    split at hk
    · rename_i vs vx hs hx
      simp only [Option.bind_eq_some_iff] at hk
      obtain ⟨⟨v0, h0⟩, hk1, hk2⟩ := hk
      have h4 := castCK_inv hk2
      obtain ⟨φ', v, h', c, w', h1, h2, h3, h5⟩ := aappend_sound (ty := ty) (K := fun v h => some (v, h)) hr (opv_rel ht hs) (opv_rel ht hx) hk1
      simp only [Option.some.injEq, Prod.mk.injEq] at h5
      obtain ⟨rfl, rfl⟩ := h5
      exact ⟨φ', v, h', c, w', run_builtin_v (s := Builtin.append_ #[t, tx] ty #[a.eval s, a.eval x]) (by simp only [List.map_toArray, List.map_cons, List.map_nil]; rfl) h1, h2, h3, h4⟩
    · cases hk
  · rename_i t x
    split at hk
    · rename_i s hd hx
      have hc := vr_string (opv_rel ht hx)
      refine ⟨φ, _, h, _, w, run_builtin_v (s := Builtin.len_ #[t] ty #[a.eval x]) (by simp only [List.map_toArray, List.map_cons, List.map_nil]; rfl) (c := .int .i64 s.data.toList.length) ?_, .refl hr, .int _ _, hk⟩
      simp [Builtin.len_, run_underlying' hd, hc, goInt]
    · rename_i e p n cp hd hx
      have hv := opv_rel ht hx
      obtain ⟨p', c', hc⟩ : ∃ p' c', a.eval x = .slice p' n c' := by
        generalize a.eval x = q at hv
        cases hv <;> exact ⟨_, _, rfl⟩
      refine ⟨φ, _, h, _, w, run_builtin_v (s := Builtin.len_ #[t] ty #[a.eval x]) (by simp only [List.map_toArray, List.map_cons, List.map_nil]; rfl) (c := .int .i64 n) ?_, .refl hr, .int _ _, hk⟩
      simp [Builtin.len_, run_underlying' hd, hc, goInt]
    · rename_i k e m hd hx
      simp only [Option.bind_eq_some_iff] at hk
      obtain ⟨es, hes, hk⟩ := hk
      cases m with
      | none =>
        simp only [mapOf, Option.some.injEq] at hes
        subst hes
        have hv := opv_rel ht hx
        have hc : a.eval x = .map none := by
          generalize a.eval x = q at hv
          cases hv; rfl
        refine ⟨φ, _, h, _, w, run_builtin_v (s := Builtin.len_ #[t] ty #[a.eval x]) (by simp only [List.map_toArray, List.map_cons, List.map_nil]; rfl) (c := .int .i64 0) ?_, .refl hr, .int _ _, hk⟩
        simp [Builtin.len_, run_underlying' hd, hc, goInt]
      | some m =>
      simp only [mapOf] at hes
      split at hes
      · rename_i es0 clk hb
        obtain rfl := Option.some.inj hes
        have hv := opv_rel ht hx
        obtain ⟨t', es', g1, g2, g3, g4⟩ := hr.maps m es0 clk hb
        have hc : a.eval x = .map (some t'.blk) := by
          generalize a.eval x = q at hv
          cases hv with
          | map h1 => rw [g1] at h1; obtain rfl := Option.some.inj h1; rfl
        have hget : (getObj t'.blk).run P w = .ok (.map es' clk) w := by simp [getObj, Sem.run, g3]
        refine ⟨φ, _, h, _, w, run_builtin_v (s := Builtin.len_ #[t] ty #[a.eval x]) (by simp only [List.map_toArray, List.map_cons, List.map_nil]; rfl) (c := .int .i64 es0.length) ?_, .refl hr, .int _ _, hk⟩
        have hl := g4.len
        simp only [Array.length_toList] at hl
        simp [Builtin.len_, run_underlying' hd, hc, goInt, hget, hl]
      · cases hes
    · cases hk
  · rename_i x y
    split at hk
    · rename_i k i k' j hx hy
      have h1 := vr_int (opv_rel ht hx)
      have h2 := vr_int (opv_rel ht hy)
      refine ⟨φ, _, h, _, w, run_builtin_v (s := Builtin.min_ ⟨ats⟩ ty #[a.eval x, a.eval y]) (by simp only [List.map_toArray, List.map_cons, List.map_nil]; rfl) (c := .int k (cond (decide (j < i)) j i)) ?_, .refl hr, .int _ _, hk⟩
      simp only [h1, h2, Builtin.min_, List.foldlM_cons, List.foldlM_nil, Builtin.min2, Sem.run_bind, Sem.run_pure, Result.andThen_ok]
      by_cases hji : j < i <;> simp [hji]
    · cases hk
  · rename_i x y
    split at hk
    · rename_i k i k' j hx hy
      have h1 := vr_int (opv_rel ht hx)
      have h2 := vr_int (opv_rel ht hy)
      refine ⟨φ, _, h, _, w, run_builtin_v (s := Builtin.max_ ⟨ats⟩ ty #[a.eval x, a.eval y]) (by simp only [List.map_toArray, List.map_cons, List.map_nil]; rfl) (c := .int k (cond (decide (i < j)) j i)) ?_, .refl hr, .int _ _, hk⟩
      simp only [h1, h2, Builtin.max_, List.foldlM_cons, List.foldlM_nil, Builtin.max2, Sem.run_bind, Sem.run_pure, Result.andThen_ok]
      by_cases hji : i < j <;> simp [hji]
    · cases hk
  · rename_i t tk m k
    simp only [Option.bind_eq_some_iff] at hk
    obtain ⟨mv, hm, kv, hkv, ⟨d, e⟩, hty, h', hdel, hk⟩ := hk
    obtain ⟨w', h1, h2⟩ := adel_sound (P := P) (tk := tk) (ty := ty) hr hty (opv_rel ht hm) (opv_rel ht hkv) hdel
    exact ⟨φ, _, h', .tuple #[], w', run_builtin_v (s := Builtin.delete_ #[t, tk] ty #[a.eval m, a.eval k]) (by simp only [List.map_toArray, List.map_cons, List.map_nil]; rfl) h1, h2, .tuple rfl (by simp), hk⟩
  · rename_i t x
    split at hk
    · rename_i e p n cp hd hx
      have hv := opv_rel ht hx
      simp only [Option.bind_eq_some_iff] at hk
      obtain ⟨z, hz0, h', hcl, hk⟩ := hk
      obtain ⟨i, zv, hi, hz, rfl, hzs, hfl⟩ := zeroCellsOf_inv hz0
      cases n with
      | zero =>
        have hc : ∃ p' c', a.eval x = .slice p' 0 c' := by
          generalize a.eval x = q at hv
          cases hv <;> exact ⟨_, _, rfl⟩
        obtain ⟨p', c', hc⟩ := hc
        obtain rfl := Option.some.inj hcl
        refine ⟨φ, _, h, .tuple #[], w, run_builtin_v (s := Builtin.clear_ #[t] ty #[a.eval x]) (by simp only [List.map_toArray, List.map_cons, List.map_nil]; rfl) ?_, .refl hr, .tuple rfl (by simp), hk⟩
        cases p' <;> simp [Builtin.clear_, run_underlying' hd, hc]
      | succ n =>
        cases p with
        | none => cases hcl
        | some ad =>
          have hst : h.st ad.block ad.off (repL zv.cells.toList (n + 1)) = some h' := hcl
          rcases vr_slice hv with ⟨_, _, _, _, _, h0, _⟩ | ⟨t', ra, c', hφ, hsp, hc, hcase⟩
          · cases h0
          have hra : ra = t'.sh + ad.off := by
            rcases hcase with ⟨_, _, h | ⟨h, _⟩⟩ | ⟨_, _, _, h | ⟨h, _⟩⟩ <;> first | exact h | omega
          subst hra
          obtain ⟨w', h1, h2⟩ := st_sound (P := P) hr hφ (repL_VRs (flats_VRs (φ := φ) hfl) (n + 1)) (repL_all (all_flat1_cellOk hfl) (n + 1)) hst
          refine ⟨φ, _, h', .tuple #[], w', run_builtin_v (s := Builtin.clear_ #[t] ty #[a.eval x]) (by simp only [List.map_toArray, List.map_cons, List.map_nil]; rfl) ?_, h2, .tuple rfl (by simp), hk⟩
          simp [Builtin.clear_, run_underlying' hd, hc, run_zeroValue' hi hz, zeroCells_toList, h1]
    · cases hk
  · cases hk

end

theorem castTs_inv {P : Program} : ∀ {ts : List TypeId} {l : List Value} {K : List Value → Res} {r : Value × AH}, castTs P ts l K = some r → K l = some r
  | [], [], _, _, h => h
  | [], _ :: _, _, _, h => by simp [castTs] at h
  | t :: ts, l, K, r, h => by
    simp only [castTs, Option.bind_eq_some_iff] at h
    obtain ⟨⟨v, vs⟩, h1, h2⟩ := h
    cases l with
    | nil => simp [hdO] at h1
    | cons u us =>
      simp only [hdO, Option.some.injEq, Prod.mk.injEq] at h1
      obtain ⟨rfl, rfl⟩ := h1
      have h3 := castT_inv h2
      exact castTs_inv (ts := ts) (l := us) (K := fun vs => K (u :: vs)) h3
theorem castR_inv {P : Program} {ts : List TypeId} {v : Value} {K : Value → Res} {r : Value × AH} (h : castR P ts v K = some r) : K v = some r := by
  unfold castR at h
  split at h
  · exact castT_inv h
  · simp only [Option.bind_eq_some_iff] at h
    obtain ⟨l, h1, h2⟩ := h
    have h3 := castTs_inv h2
    unfold asTu at h1
    split at h1
    · obtain rfl := Option.some.inj h1; simpa using h3
    · cases h1
theorem resTypes_inv {P : Program} {f : FuncId} {ts : List TypeId} (h : resTypes P f = some ts) : hasBody P f = true := by
  unfold resTypes at h
  cases hb : hasBody P f with
  | true => rfl
  | false => rw [hb, cond_false] at h; cases h

/-- what a call owes -/
def CallOK (P : Program) (f : FuncId) (args : List Value) (h : AH) (r : Value × AH) : Prop :=
  ∀ (φ : Emb) (w : World) (cs : List Value), HRel φ h w → VRs φ args cs →
    (Calls P f cs.toArray w fun e w' => ∃ φ' c, e = .returned c ∧ Good φ w r.2 w' φ' ∧ VR φ' r.1 c) ∧
    (plainF P f = true → CallsD P f cs.toArray .returning w fun e u w' => u = .returning ∧ ∃ φ' c, e = .returned c ∧ Good φ w r.2 w' φ' ∧ VR φ' r.1 c)

section
variable {P : Program} {φ : Emb} {w : World} {a : Act} {tm : T Value} {nt : Nat}

theorem calleeOf_sound {cl : Callee} {args : Array Operand} {ats : Array TypeId} {ty : TypeId} {f : FuncId} {first cap vs : List Value} (ht : TR φ tm nt a.tmps) (hnb : ∀ b, cl ≠ .builtin b)
    (hc : calleeOf P tm cl = some (f, first, cap)) (hv : opvs tm args.toList = some vs) (hb : hasBody P f = true) :
    ∃ cs, VRs φ (first ++ vs ++ cap) cs ∧ (do let d ← resolve a.eval ⟨cl, args, ats⟩ ty; invoke d.target d.args : Sem Next).run P w = .ok (.enter f cs.toArray) w := by
  have hvs := opvs_rel ht hv
  have hcall : ∀ xs : Array Value, (callFunc f xs).run P w = .ok (.enter f xs) w := by
    intro xs
    unfold hasBody at hb
    split at hb
    · rename_i fn hf
      simp only [Bool.and_eq_true, Bool.not_eq_true'] at hb
      have h2 := hb.2
      rw [beq_eq_false_iff_ne] at h2
      cases hbb : fn.body with
      | none => rw [hbb] at hb; simp at hb
      | some c => simp [callFunc, hf, hbb, h2]
    · cases hb
  unfold calleeOf at hc
  split at hc
  · -- a function by its name
    simp only [Option.some.injEq, Prod.mk.injEq] at hc
    obtain ⟨rfl, rfl, rfl⟩ := hc
    refine ⟨args.toList.map a.eval, by simpa using hvs, ?_⟩
    simp [resolve, Act.eval, Deferred.ofValue, invoke, hcall]
    apply Array.ext'
    simp
  · rename_i x hx
    split at hc
    · rename_i f' as bs hv'
      simp only [Option.some.injEq, Prod.mk.injEq] at hc
      obtain ⟨rfl, rfl, rfl⟩ := hc
      have := opv_rel ht hv'
      generalize hq : a.eval x = q at this
      cases this with
      | @func _ _ _ as' bs' h1 h2 h3 h4 =>
        refine ⟨as'.toList ++ args.toList.map a.eval ++ bs'.toList, ((VRs.of_get (by simpa using h1) (by simpa using h2)).append hvs).append (VRs.of_get (by simpa using h3) (by simpa using h4)), ?_⟩
        simp only [resolve, hq, Deferred.ofValue, Sem.run_bind, Sem.run_pure, Result.andThen_ok, invoke, hcall]
        congr 2
        apply Array.ext'
        simp
    · cases hc
  · rename_i rc name
    split at hc
    · rename_i t v hv'
      simp only [Option.bind_eq_some_iff] at hc
      obtain ⟨i, hi, hc⟩ := hc
      split at hc
      · rename_i m hm
        split at hc
        · rename_i f' pr d hpath hfun hd
          obtain ⟨c', hce, hvc⟩ := vr_iface (opv_rel ht hv')
          have hmeth : (method ((P.types.size + Made.depth)) t c' name).run P w = .ok (f', c') w ∧ first = [v] ∧ cap = [] ∧ f = f' := by
            have hdep : P.types.size + Made.depth = (P.types.size + (Made.depth - 1)) + 1 := by
              have : Made.depth = (Made.depth - 1) + 1 := by decide
              omega
            have hfind : i.methods.find? (·.name == name) = some m := by
              rw [← Array.find?_toList]; exact hm
            rw [hdep]
            split at hc
            · cases pr with
              | false => cases hc
              | true =>
                simp only [cond_true, Option.some.injEq, Prod.mk.injEq] at hc
                obtain ⟨rfl, rfl, rfl⟩ := hc
                refine ⟨?_, rfl, rfl, rfl⟩
                simp only [method, Sem.run_bind, run_typeInfo' hi, Result.andThen_ok, hfind, hpath, follow, Sem.run_pure, hfun, receiverAt, run_underlying' hd, Place.get]
            · cases hc
            · rename_i hnp hni
              cases pr with
              | true => cases hc
              | false =>
                simp only [cond_false, Option.some.injEq, Prod.mk.injEq] at hc
                obtain ⟨rfl, rfl, rfl⟩ := hc
                refine ⟨?_, rfl, rfl, rfl⟩
                simp only [method, Sem.run_bind, run_typeInfo' hi, Result.andThen_ok, hfind, hpath, follow, Sem.run_pure, hfun, receiverAt, run_underlying' hd]
                cases d <;> first | rfl | exact absurd rfl (hnp _)
          obtain ⟨hmeth, rfl, rfl, rfl⟩ := hmeth
          refine ⟨c' :: args.toList.map a.eval, by simpa using VRs.cons hvc hvs, ?_⟩
          simp only [resolve, hce, Sem.run_bind, Sem.run_pure, Result.andThen_ok, invoke, callMethod]
          have hz : (#[Value.iface t c'] ++ args.map a.eval)[0]? = some (.iface t c') := by rw [Array.getElem?_append_left (by simp)]; rfl
          have hex : (#[Value.iface t c'] ++ args.map a.eval).extract 1 (#[Value.iface t c'] ++ args.map a.eval).size = args.map a.eval := by
            apply Array.ext'
            simp only [Array.toList_extract, Array.toList_append, List.extract_eq_take_drop, List.size_toArray, Array.size_append, Array.size_map, List.length_cons, List.length_nil]
            simp
            exact List.take_of_length_le (by simp)
          simp only [hz, hex, Sem.run_bind, run_program, Result.andThen_ok, hmeth, hcall]
          congr 2
          apply Array.ext'
          simp
        · cases hc
      · cases hc
    · cases hc
  · rename_i b
    exact absurd rfl (hnb b)
end

theorem cellsX_eq {ag : Bool} {v : Value} (h : okX ag v = true) : cellsX ag v = v.cells.toList := by
  cases ag with
  | true => rfl
  | false => cases v <;> first | rfl | (simp [okX, cellOk] at h)
theorem fillX_le {pl : Nat → Option (Nat × Nat × Bool)} {pl' : Nat → Option (Nat × Nat)} (hp : ∀ i p, pl i = some p → pl' i = some (p.1, p.2.1)) : ∀ {ps : List (Nat × Value)} {cs r : List Value}, fillX pl cs ps = some r → fillL pl' cs ps = some r
  | [], _, _, h => h
  | (i, v) :: rest, cs, r, h => by
    simp only [fillX, Option.bind_eq_some_iff] at h
    obtain ⟨p, h1, h2⟩ := h
    cases hc : okX p.2.2 v && (Nat.beq (cellsX p.2.2 v).length p.2.1 && Nat.ble (p.1 + (cellsX p.2.2 v).length) cs.length) with
    | false => rw [hc] at h2; cases h2
    | true =>
      rw [hc, cond_true] at h2
      rw [Bool.and_eq_true] at hc
      rw [cellsX_eq hc.1] at h2
      have h3 := hc.2
      rw [cellsX_eq hc.1] at h3
      simp only [fillL, hp i p h1, Option.bind_some, h3, cond_true]
      exact fillX_le hp h2
theorem placesX_le {P : Program} : ∀ {fs : List Field} {l : List (Nat × Nat × Bool)}, placesX P fs = some l → placesL P fs = some (l.map fun p => (p.1, p.2.1))
  | [], _, h => by simp only [placesX, Option.some.injEq] at h; subst h; rfl
  | f :: fs, l, h => by
    simp only [placesX, Option.bind_eq_some_iff, Option.some.injEq] at h
    obtain ⟨n, h1, l', h2, rfl⟩ := h
    simp only [placesL, h1, Option.bind_some, placesX_le h2, List.map_cons]
theorem placeX_le {P : Program} {t : TypeId} {pl : Nat → Option (Nat × Nat × Bool)} (h : placeX P t = some pl) : ∃ pl', placeOf P t = some pl' ∧ ∀ i p, pl i = some p → pl' i = some (p.1, p.2.1) := by
  unfold placeX at h
  unfold placeOf
  split at h
  · rename_i fs hu
    simp only [Option.bind_eq_some_iff, Option.some.injEq] at h
    obtain ⟨l, h1, rfl⟩ := h
    simp only [hu, placesX_le h1, Option.bind_some]
    refine ⟨_, rfl, fun i p hp => ?_⟩
    simp [List.getElem?_map, hp]
  · rename_i n e hu
    simp only [Option.bind_eq_some_iff, Option.some.injEq] at h
    obtain ⟨sz, h1, rfl⟩ := h
    simp only [hu, h1, Option.bind_some]
    refine ⟨_, rfl, fun i p hp => ?_⟩
    simp only [Option.some.injEq] at hp
    subst hp; rfl
  · cases h
theorem binX_le {P : Program} {op : BinOp} {t : TypeId} {c : Bool} {a b : Value} {K : Value → Res} {r : Value × AH} (h : binX P op t c a b K = some r) : cond (binOk op a b) ((abinT P op t c a b).bind K) none = some r := by
  unfold binX at h
  split at h
  · rename_i e he
    unfold nilT at he
    split at he
    all_goals first
      | (cases he; done)
      | (split at he
         · rename_i hu
           obtain rfl := Option.some.inj he
           simp only [cond_true, cond_false, Option.bind_eq_some_iff] at h
           obtain ⟨q, h1, h2⟩ := h
           cases a <;> simp only [isNilI, isNilG] at h1 <;> first
             | (cases h1; done)
             | (simp only [binOk, cond_true, abinT, hu, aeqP, aeq]
                first
                  | (obtain rfl := Option.some.inj h1; exact h2)
                  | (cases c with
                     | true => rw [cond_true] at h1; obtain rfl := Option.some.inj h1; exact h2
                     | false => cases h1))
         · cases he)
  · exact h
theorem evOpX_le {P : Program} {O : Orc} {tm : T Value} {ty : TypeId} {op : Op} {h : AH} {K : Option Value → AH → Res} {r : Value × AH} (hk : evOpX P O tm ty op h K = some r) : evOp P O tm op h K = some r := by
  cases op with
  | extract x i =>
    simp only [evOpX] at hk
    simp only [evOp]
    split at hk
    · simp only [Option.bind_eq_some_iff] at hk ⊢
      obtain ⟨v, h1, h2⟩ := hk
      exact ⟨v, h1, castX_inv h2⟩
    · cases hk
  | box e x =>
    simp only [evOpX, Option.bind_eq_some_iff] at hk
    obtain ⟨v, h1, h2⟩ := hk
    cases hc : okX (aggT P e) v && (cellsX (aggT P e) v).all cellOk with
    | false => rw [hc] at h2; cases h2
    | true =>
      rw [hc, cond_true] at h2
      rw [Bool.and_eq_true] at hc
      have h3 := hc.2
      rw [cellsX_eq hc.1] at h2 h3
      simp only [evOp, h1, Option.bind_some, h3, cond_true]
      exact h2
  | build t ps =>
    simp only [evOpX, fillK_eq, Option.bind_eq_some_iff] at hk
    obtain ⟨z, h1, vs, h2, pl, h3, cs, h4, h5⟩ := hk
    obtain ⟨pl', h6, h7⟩ := placeX_le h3
    simp only [evOp, h1, h2, h6, fillX_le h7 h4, Option.bind_some]
    exact h5
  | buildSlice t n ps =>
    simp only [evOpX] at hk
    split at hk
    · rename_i e hu
      simp only [fillK_eq, Option.bind_eq_some_iff] at hk
      obtain ⟨sz, h1, z, h2, vs, h3, h4⟩ := hk
      simp only [evOp, hu, h1, h2, h3, Option.bind_some]
      cases hc : (Nat.beq z.length sz && Nat.ble (n * sz) 65536 && Nat.blt n opn) with
      | false => rw [hc] at h4; cases h4
      | true =>
        rw [hc, cond_true, Option.bind_eq_some_iff] at h4
        obtain ⟨cs, h5, h6⟩ := h4
        rw [cond_true, fillX_le (pl' := fun i => some (i * sz, sz)) (fun i p hp => by simp only [Option.some.injEq] at hp; subst hp; rfl) h5]
        exact h6
    · cases hk
  | store t x y =>
    simp only [evOpX, Option.bind_eq_some_iff] at hk
    obtain ⟨a, h1, h2⟩ := hk
    simp only [evOp, h1, Option.bind_some]
    unfold addrK at h2 ⊢
    split at h2
    · rename_i p
      simp only [Option.bind_eq_some_iff] at h2 ⊢
      obtain ⟨a, h3, v, h4, n, h5, h6⟩ := h2
      refine ⟨a, h3, v, h4, n, h5, ?_⟩
      cases hc : okX (aggT P t) v && (Nat.beq (cellsX (aggT P t) v).length n && (cellsX (aggT P t) v).all cellOk) with
      | false => rw [hc] at h6; cases h6
      | true =>
        rw [hc, cond_true] at h6
        rw [Bool.and_eq_true] at hc
        have h7 := hc.2
        rw [cellsX_eq hc.1] at h6 h7
        rw [h7, cond_true]; exact h6
    · cases h2
  | binOp op t x y u =>
    simp only [evOpX, Option.bind_eq_some_iff] at hk
    obtain ⟨a, h1, b, h2, h3⟩ := hk
    simp only [evOp, h1, h2, Option.bind_some]
    exact binX_le h3
  | call c =>
    obtain ⟨cl, args, ats⟩ := c
    cases cl with
    | builtin b => exact hk
    | value x =>
      simp only [evOpX, Option.bind_eq_some_iff] at hk
      obtain ⟨f, h1, vs, h2, h3⟩ := hk
      simp only [evOp, h1, h2, Option.bind_some]
      cases hb : hasBody P f.1 with
      | false => rw [hb] at h3; cases h3
      | true =>
        rw [hb, cond_true, Option.bind_eq_some_iff] at h3
        obtain ⟨q, h4, h5⟩ := h3
        rw [cond_true, h4, Option.bind_some]
        exact castR_inv h5
    | invoke x n =>
      simp only [evOpX, Option.bind_eq_some_iff] at hk
      obtain ⟨f, h1, vs, h2, h3⟩ := hk
      simp only [evOp, h1, h2, Option.bind_some]
      cases hb : hasBody P f.1 with
      | false => rw [hb] at h3; cases h3
      | true =>
        rw [hb, cond_true, Option.bind_eq_some_iff] at h3
        obtain ⟨q, h4, h5⟩ := h3
        rw [cond_true, h4, Option.bind_some]
        exact castR_inv h5
  | _ => exact hk
end Go.Lg

namespace Go.Lg
open Go

section
variable {P : Program}

/-- the deferred calls of a function that runs as a deferred call itself -/
theorem leaves_stepsD {fn : Func} {tmps : Array Value} {R : Ending → World → Prop} : ∀ (ds : List Deferred) (u : FrameMode) (w : World) (fr : Frame)
    (cs : List Frame), fr.mode = u → fr.defers = ds → fr.tmps = tmps → P.funcs[fr.fn]? = some fn → fr.kind = .deferred → Leaves P fn tmps R ds u w →
    ∃ e w' fr', R e w' ∧ Comes P (lone fr cs w) (lone fr' cs w') e ∧ fr'.kind = .deferred ∧ fr'.going P w' e := by
  intro ds
  induction ds with
  | nil =>
    intro u w fr cs hu hd ht hf hk h
    cases u with
    | run => exact h.elim
    | returning =>
      obtain ⟨v, hr, hR⟩ := h
      exact ⟨.returned v, w, fr, hR, Steps.refl P _, hk, hu, hd, fn, hf, ht ▸ hr⟩
    | panicking chain => exact ⟨.panicked chain, w, fr, h, Steps.refl P _, hk, hu, hd, fn, hf⟩
  | cons d ds ih =>
    intro u w fr cs hu hd ht hf hk h
    obtain ⟨hrun, fv, cap, f, args, htar, hinv, hcall⟩ := h
    have h1 := step_defer (cs := cs) (hu ▸ hrun) hd htar hinv
    obtain ⟨e, u', w', frX, hR, hsteps, hkX, hgo⟩ := hcall { fr with defers := ds } cs hu
    cases e with
    | returned v =>
      have h2 := step_going_returned (c := { { fr with defers := ds } with mode := u' }) (cs := cs) hkX hgo
      obtain ⟨e', w'', fr', hR', hs', hfn', hl'⟩ := ih (settle u') w' { { { fr with defers := ds } with mode := u' } with mode := settle u' } cs rfl rfl ht hf hk hR
      exact ⟨e', w'', fr', hR', Comes.of_steps (.head h1 (Steps.trans hsteps (.one h2))) hs', hfn', hl'⟩
    | panicked chain =>
      have h2 := step_going_panicked (c := { { fr with defers := ds } with mode := u' }) (cs := cs) hgo
      obtain ⟨e', w'', fr', hR', hs', hfn', hl'⟩ := ih (raised u' chain) w' { { { fr with defers := ds } with mode := u' } with mode := raised u' chain } cs rfl rfl ht hf hk hR
      exact ⟨e', w'', fr', hR', Comes.of_steps (.head h1 (Steps.trans hsteps (.one h2))) hs', hfn', hl'⟩
    | outgrown => exact ⟨.outgrown, w', fr, hR, Outgrown.of_steps (.one h1) hsteps, hk, trivial⟩

theorem callsD_of_wp_defers {f : FuncId} {fn : Func} {c : Code} {args : Array Value} {u : FrameMode} {w : World} {R : Ending → World → Prop}
    (hf : P.funcs[f]? = some fn) (hb : fn.body = some c)
    (h : c.wp P (bodyPostD P fn R) { tmps := args ++ Array.replicate (fn.ntmps - args.size) undef, defers := [] } w) :
    CallsD P f args u w fun e u' w' => u' = u ∧ R e w' := by
  intro c₀ cs hu
  let b : Frame := { (default : Frame) with fn := f, kind := .deferred }
  have henter : Frame.enter P f args .deferred =
      b.at { tmps := args ++ Array.replicate (fn.ntmps - args.size) undef, defers := [] } [.code c] := by
    simp [Frame.enter, Frame.at, hf, hb, b]
  have hc : ({ c₀ with mode := u } : Frame) = c₀ := by subst hu; rfl
  obtain ⟨e, a', w', hq, harr⟩ := h b [] (c₀ :: cs)
  rw [← henter] at harr
  cases e with
  | normal =>
    obtain ⟨e', w'', fr', hR, hs, hfn, hl⟩ := leaves_stepsD a'.defers .returning w' { b.at a' [] with mode := .returning } (c₀ :: cs) rfl rfl rfl hf rfl hq
    exact ⟨e', u, w'', fr', ⟨rfl, hR⟩, (by rw [hc]; exact Comes.of_steps (Steps.trans harr (.one step_end)) hs), hfn, hl⟩
  | ret =>
    obtain ⟨todo, hs₀⟩ := harr
    obtain ⟨e', w'', fr', hR, hs, hfn, hl⟩ := leaves_stepsD a'.defers .returning w' { b.at a' todo with mode := .returning } (c₀ :: cs) rfl rfl rfl hf rfl hq
    exact ⟨e', u, w'', fr', ⟨rfl, hR⟩, (by rw [hc]; exact Comes.of_steps hs₀ hs), hfn, hl⟩
  | panic chain =>
    obtain ⟨todo, hs₀⟩ := harr
    obtain ⟨e', w'', fr', hR, hs, hfn, hl⟩ := leaves_stepsD a'.defers (.panicking chain) w' { b.at a' todo with mode := .panicking chain } (c₀ :: cs) rfl rfl rfl hf rfl hq
    exact ⟨e', u, w'', fr', ⟨rfl, hR⟩, (by rw [hc]; exact Comes.of_steps hs₀ hs), hfn, hl⟩
  | exit id => exact hq.elim
  | goto l => exact hq.elim
  | outgrown => exact ⟨.outgrown, u, w', b, ⟨rfl, hq⟩, harr.resolve_left (by simp [b]), rfl, trivial⟩

/-- what an exit's condition owes: the deferred calls run at the end -/
def DClosed (P : Program) (Q : Exit → Act → World → Prop) : Prop :=
  ∀ (a : Act) (w : World) (fv : Fn) (cap dargs : Array Value) (ds : List Deferred) (f : FuncId) (args : Array Value), a.defers = { target := .fn fv cap, args := dargs } :: ds →
    (invoke (.fn fv cap) dargs).run P w = .ok (.enter f args) w →
    CallsD P f args .returning w (fun e u w2 => u = .returning ∧ ∃ c, e = .returned c ∧ Q .ret { a with defers := ds } w2) → Q .ret a w

theorem bodyPostD_closed {fn : Func} {R : Ending → World → Prop} : DClosed P (bodyPostD P fn R) := by
  intro a w fv cap dargs ds f args hd hi hc
  show Leaves P fn a.tmps R a.defers .returning w
  rw [hd]
  refine leaves_cons (by simp) hi (hc.mono ?_)
  rintro e u w2 ⟨rfl, c, rfl, hq⟩
  exact hq

theorem run_callFunc {f : FuncId} (hb : hasBody P f = true) (xs : Array Value) (w : World) : (callFunc f xs).run P w = .ok (.enter f xs) w := by
  unfold hasBody at hb
  split at hb
  · rename_i fn hf
    simp only [Bool.and_eq_true, Bool.not_eq_true'] at hb
    have h2 := hb.2
    rw [beq_eq_false_iff_ne] at h2
    cases hbb : fn.body with
    | none => rw [hbb] at hb; simp at hb
    | some c => simp [callFunc, hf, hbb, h2]
  · cases hb

theorem splitD_inv : ∀ {l pre : List Oper} {x : Tmp}, splitD l = some (pre, x) → ∃ o c, l = pre ++ [o] ∧ o.dst = none ∧ o.guard = none ∧ o.op = .defer c ∧ c.callee = .value (.tmp x) ∧ c.args.toList = []
  | [], _, _, h => by cases h
  | [o], pre, x, h => by
    simp only [splitD] at h
    split at h
    · rename_i c hd ho hg
      split at h
      · rename_i y hc ha
        simp only [Option.some.injEq, Prod.mk.injEq] at h
        obtain ⟨rfl, rfl⟩ := h
        exact ⟨o, c, rfl, hd, hg, ho, hc, ha⟩
      · cases h
    · cases h
  | o :: o2 :: rest, pre, x, h => by
    unfold splitD at h
    simp only [Option.bind_eq_some_iff] at h
    obtain ⟨⟨p, y⟩, h1, h2⟩ := h
    simp only [Option.some.injEq, Prod.mk.injEq] at h2
    obtain ⟨rfl, rfl⟩ := h2
    obtain ⟨o', c, e, rest'⟩ := splitD_inv h1
    exact ⟨o', c, by rw [e]; rfl, rest'⟩
end
end Go.Lg

namespace Go.Lg
open Go

theorem seqB_true {a b : ByteArray} (h : seqB a b = true) : a = b := by
  apply ByteArray.ext
  apply Array.ext'
  exact beqL_iff.1 h
theorem veq1_true {a b : Value} (h : veq1 a b = true) : a = b := by
  unfold veq1 at h
  split at h
  · rw [eq_of_beq h]
  · simp only [Bool.and_eq_true, decide_eq_true_eq] at h
    rw [eq_of_beq h.1, h.2]
  · rw [seqB_true h]
  · rw [of_decide_eq_true h]
  · simp only [Bool.and_eq_true, decide_eq_true_eq] at h
    rw [h.1.1, Nat.eq_of_beq_eq_true h.1.2, Nat.eq_of_beq_eq_true h.2]
  · rw [of_decide_eq_true h]
  · rfl
  · rfl
  · cases h
theorem veqL_true : ∀ {a b : List Value}, veqL a b = true → a = b
  | [], [], _ => rfl
  | a :: l, b :: m, h => by
    simp only [veqL, Bool.and_eq_true] at h
    rw [veq1_true h.1, veqL_true h.2]
  | [], _ :: _, h => by simp [veqL] at h
  | _ :: _, [], h => by simp [veqL] at h
theorem veq2_true {a b : Value} (h : veq2 a b = true) : a = b := by
  unfold veq2 at h
  split at h
  · congr 1; apply Array.ext'; exact veqL_true h
  · simp only [Bool.and_eq_true] at h
    rw [Nat.eq_of_beq_eq_true h.1, veq1_true h.2]
  · simp only [Bool.and_eq_true] at h
    rw [Nat.eq_of_beq_eq_true h.1.1]
    congr 1
    · apply Array.ext'; exact veqL_true h.1.2
    · apply Array.ext'; exact veqL_true h.2
  · exact veq1_true h
theorem veqL2_true : ∀ {a b : List Value}, veqL2 a b = true → a = b
  | [], [], _ => rfl
  | a :: l, b :: m, h => by
    simp only [veqL2, Bool.and_eq_true] at h
    rw [veq2_true h.1, veqL2_true h.2]
  | [], _ :: _, h => by simp [veqL2] at h
  | _ :: _, [], h => by simp [veqL2] at h
theorem veq_true {a b : Value} (h : veq a b = true) : a = b := by
  unfold veq at h
  split at h
  · congr 1; apply Array.ext'; exact veqL2_true h
  · exact veq2_true h
theorem veqO_true {a b : Option Value} (h : veqO a b = true) : a = b := by
  unfold veqO at h
  split at h
  · rw [veq_true h]
  · rfl
  · cases h


end Go.Lg
