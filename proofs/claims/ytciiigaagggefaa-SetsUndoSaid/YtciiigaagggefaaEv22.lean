/- Soundness of the evaluator. Part 22: maps. -/
import Derived.Test.YtciiigaagggefaaEv11
import Derived.MapKept
namespace Go.Lg
open Go Go.MapKept

theorem castN_inv : ∀ {cs : List CK} {l : List Value} {K : List Value → Res} {r : Value × AH}, castN cs l K = some r → K l = some r
  | [], [], _, _, h => h
  | [], _ :: _, _, _, h => by simp [castN] at h
  | c :: cs, l, K, r, h => by
    simp only [castN, Option.bind_eq_some_iff] at h
    obtain ⟨⟨v, vs⟩, h1, h2⟩ := h
    cases l with
    | nil => simp [hdO] at h1
    | cons u us =>
      simp only [hdO, Option.some.injEq, Prod.mk.injEq] at h1
      obtain ⟨rfl, rfl⟩ := h1
      have h3 := castCK_inv h2
      exact castN_inv (cs := cs) (l := us) (K := fun vs => K (u :: vs)) h3
theorem castT_inv {P : Program} {t : TypeId} {v : Value} {K : Value → Res} {r : Value × AH} (h : castT P t v K = some r) : K v = some r := by
  unfold castT at h
  split at h
  · simp only [Option.bind_eq_some_iff] at h
    obtain ⟨l, h1, h2⟩ := h
    have h3 := castN_inv h2
    unfold asAg at h1
    split at h1
    · obtain rfl := Option.some.inj h1; simpa using h3
    · cases h1
  · exact castCK_inv h
  · cases h

theorem keyOk_isKey {d : TypeDesc} {k : Value} (h : keyOk d k = true) : IsKey d k := by
  unfold keyOk at h
  split at h
  · trivial
  · exact eq_of_beq h
  · trivial
  · cases h
theorem keyOk_flat {d : TypeDesc} {k : Value} (h : keyOk d k = true) : flat1 k = true := by
  unfold keyOk at h
  split at h <;> first | rfl | cases h
theorem seqB_iff {a b : ByteArray} : seqB a b = true ↔ a = b := by
  unfold seqB
  rw [beqL_iff]
  constructor
  · intro h; exact ByteArray.ext (Array.ext' h)
  · rintro rfl; rfl
theorem keqB_eq {d : TypeDesc} {a b : Value} (ha : keyOk d a = true) (hb : keyOk d b = true) : keqB a b = true ↔ a = b := by
  cases a <;> first | (cases d <;> cases ha; done) | skip
  all_goals cases b <;> first | (cases d <;> cases hb; done) | skip
  · simp [keqB]
  · simp [keqB]
  all_goals simp [keqB, seqB_iff]
theorem same_keqB {d : TypeDesc} {a b : Value} (ha : keyOk d a = true) (hb : keyOk d b = true) : Instr.sameNow d a b = some (keqB a b) := by
  obtain ⟨r, h1, h2⟩ := sameNow_of_keys (keyOk_isKey ha) (keyOk_isKey hb)
  rw [h1]
  congr 1
  rw [Bool.eq_iff_iff, h2, keqB_eq ha hb]

/-- what is found, in the model's map -/
theorem afind_none {φ : Emb} {d : TypeDesc} {k : Value} (hk : keyOk d k = true) : ∀ {es es' : List MapEntry} {i : Nat}, MapRel φ es es' → keysOk d es = true → afind k es i = none → Instr.findNow d k es' i = some none
  | [], [], i, _, _, _ => rfl
  | [], _ :: _, i, hm, _, _ => by have := hm.len; simp at this
  | _ :: _, [], i, hm, _, _ => by have := hm.len; simp at this
  | e :: es, e' :: es', i, hm, ho, h => by
    obtain ⟨h1, h2, h3, h4⟩ := hm.at_ 0 e e' rfl rfl
    simp only [keysOk, List.all_cons, Bool.and_eq_true] at ho
    simp only [afind] at h
    cases hb : keqB k e.key with
    | true => rw [hb, cond_true] at h; cases h
    | false =>
      rw [hb, cond_false] at h
      simp only [Instr.findNow, h2, same_keqB hk ho.1, hb]
      exact afind_none hk ⟨by have := hm.len; simpa using this, fun j x x' hx hx' => hm.at_ (j + 1) x x' (by simpa using hx) (by simpa using hx')⟩ ho.2 h
theorem afind_some {φ : Emb} {d : TypeDesc} {k : Value} (hk : keyOk d k = true) : ∀ {es es' : List MapEntry} {i : Nat} {p : Nat × Value}, MapRel φ es es' → keysOk d es = true → afind k es i = some p →
    ∃ j e e', p = (i + j, e.val) ∧ es[j]? = some e ∧ es'[j]? = some e' ∧ e.key = k ∧ Instr.findNow d k es' i = some (some (i + j, e'.val)) ∧ VR φ e.val e'.val
  | [], _, i, p, _, _, h => by cases h
  | _ :: _, [], i, p, hm, _, _ => by have := hm.len; simp at this
  | e :: es, e' :: es', i, p, hm, ho, h => by
    obtain ⟨h1, h2, h3, h4⟩ := hm.at_ 0 e e' rfl rfl
    simp only [keysOk, List.all_cons, Bool.and_eq_true] at ho
    simp only [afind] at h
    cases hb : keqB k e.key with
    | true =>
      rw [hb, cond_true] at h
      obtain rfl := Option.some.inj h
      exact ⟨0, e, e', rfl, rfl, rfl, ((keqB_eq hk ho.1).1 hb).symm, by simp [Instr.findNow, h2, same_keqB hk ho.1, hb], h4⟩
    | false =>
      rw [hb, cond_false] at h
      obtain ⟨j, x, x', g1, g2, g3, g4, g5, g6⟩ := afind_some (φ := φ) hk (es := es) (es' := es') (i := i + 1) ⟨by have := hm.len; simpa using this, fun j x x' hx hx' => hm.at_ (j + 1) x x' (by simpa using hx) (by simpa using hx')⟩ ho.2 h
      refine ⟨j + 1, x, x', by rw [g1]; congr 1; omega, by simpa using g2, by simpa using g3, g4, ?_, g6⟩
      simp only [Instr.findNow, h2, same_keqB hk ho.1, hb, g5]
      congr 3; omega

theorem mapTy_inv {P : Program} {t : TypeId} {d : TypeDesc} {e : TypeId} (h : mapTy P t = some (d, e)) : ∃ k, P.underlying t = some (.map k e) ∧ P.underlying k = some d := by
  unfold mapTy at h
  split at h
  · rename_i k e' hu
    simp only [Option.bind_eq_some_iff, Option.some.injEq, Prod.mk.injEq] at h
    obtain ⟨d', h1, rfl, rfl⟩ := h
    exact ⟨k, hu, h1⟩
  · cases h
theorem vr_nilM {φ : Emb} {c : Value} (h : VR φ (.map none) c) : c = .map none := by cases h; rfl
theorem vr_map {φ : Emb} {r : Nat} {c : Value} (h : VR φ (.map (some r)) c) : ∃ t, φ r = some t ∧ c = .map (some t.blk) := by
  cases h with
  | map h => exact ⟨_, h, rfl⟩
theorem vr_key {φ : Emb} {d : TypeDesc} {k c : Value} (hk : keyOk d k = true) (h : VR φ k c) : c = k := by
  cases h <;> first | rfl | (cases d <;> cases hk)

/-- a map's block is set -/
theorem set_map_good {φ : Emb} {h : AH} {w : World} (hr : HRel φ h w) {r : Nat} {es es2 : List MapEntry} {clk clk2 : Nat} {es2' : Array MapEntry} (hb : h.get r = some (.map es clk)) {t : Tgt} (ht : φ r = some t)
    (hm : MapRel φ es2 es2'.toList) : Good φ w (h.set r (some (.map es2 clk2))) { w with heap := w.heap.setIfInBounds t.blk (.map es2' clk2) } φ := by
  obtain ⟨t0, es0, h1, hro, hw, _⟩ := hr.maps r es clk hb
  rw [ht] at h1
  obtain rfl := Option.some.inj h1
  have hlt : t.blk < w.heap.size := hr.blkLt _ _ ht
  have hne : ∀ b x t', b ≠ r → h.get b = some x → φ b = some t' → t'.blk ≠ t.blk := by
    intro b x t' hbr hx ht' he
    rcases hr.inj b r x _ t' t hx hb ht' ht he with e | ⟨_, e⟩
    · exact hbr e
    · rw [hro] at e; cases e
  have hother : ∀ B, B ≠ t.blk → (w.heap.setIfInBounds t.blk (.map es2' clk2))[B]? = w.heap[B]? := fun B hB => by rw [Array.getElem?_setIfInBounds_ne (Ne.symm hB)]
  refine ⟨.refl _ _, ⟨rfl, rfl, rfl, by simp, fun B hB hall => ?_⟩, ?_⟩
  · exact hother B fun e => by have := hall r t ht e.symm; rw [hro] at this; cases this
  · refine ⟨hr.lt, fun b t' hb' => by simpa using hr.blkLt b t' hb', ?_, ?_, ?_, ?_, ?_⟩
    · intro b c op ro esz hbc
      rw [AH.get_set] at hbc
      split at hbc
      · cases hbc
      · rename_i hbr
        obtain ⟨t', g1, g2, g3, g4, g5, g6⟩ := hr.cells b c op ro esz hbc
        have hn := hne b _ t' hbr hbc g1
        refine ⟨t', g1, g2, g3, g4, fun hf => by rw [hother _ hn]; exact g5 hf, fun k v hk => ?_⟩
        obtain ⟨hc, v', h9, h10⟩ := g6 k v hk
        refine ⟨hc, v', ?_, h10⟩
        rw [← h9]
        simp only [World.cell?, hother _ hn]
    · intro b es3 clk3 hbm
      rw [AH.get_set] at hbm
      split at hbm
      · rename_i e
        subst e
        simp only [Option.some.injEq, Blk.map.injEq] at hbm
        obtain ⟨rfl, rfl⟩ := hbm
        exact ⟨t, es2', ht, hro, by simp [hlt], hm⟩
      · rename_i hbr
        obtain ⟨t', es', g1, g2, g3, g4⟩ := hr.maps b es3 clk3 hbm
        exact ⟨t', es', g1, g2, by rw [hother _ (hne b _ t' hbr hbm g1)]; exact g3, g4⟩
    · intro b1 b2 x x' t1 t2 hx hx' h1 h2 he
      rw [AH.get_set] at hx hx'
      have key : ∀ b y, (if b = r then some (Blk.map es2 clk2) else h.get b) = some y → ∃ z, h.get b = some z := by
        intro b y hy
        split at hy
        · rename_i e; subst e; exact ⟨_, hb⟩
        · exact ⟨_, hy⟩
      obtain ⟨z1, hz1⟩ := key b1 x hx
      obtain ⟨z2, hz2⟩ := key b2 x' hx'
      exact hr.inj b1 b2 _ _ t1 t2 hz1 hz2 h1 h2 he
    · intro b x hx
      rw [AH.get_set] at hx
      split at hx
      · rename_i e; subst e; exact hr.gets _ _ hb
      · exact hr.gets _ _ hx
    · intro b c' esz' t' hx ht'
      rw [AH.get_set] at hx
      split at hx
      · cases hx
      · exact hr.sh0 _ _ _ _ hx ht'

/-- a new map -/
theorem push_map_good {φ : Emb} {h : AH} {w : World} (hr : HRel φ h w) : Good φ w (h.push (.map [] 0)) (w.alloc (.map #[] 0)) (grow φ h.n ⟨w.heap.size, 0, 0, 0, false⟩) := by
  have hsub := grow_sub hr ⟨w.heap.size, 0, 0, 0, false⟩
  refine ⟨⟨hsub, fun b t hb => ?_⟩, ⟨rfl, rfl, rfl, by simp, fun B hB _ => heap_alloc_old w _ B hB⟩, ?_⟩
  · simp only [grow] at hb
    split at hb
    · obtain rfl := Option.some.inj hb; exact .inr (.inl (Nat.le_refl _))
    · exact .inl hb
  · have hnew := heap_alloc_new w (.map #[] 0)
    refine ⟨?_, ?_, ?_, ?_, ?_, ?_, ?_⟩
    · intro b t hb
      simp only [grow] at hb
      split at hb
      · rename_i e; simp [AH.push, e]
      · have := hr.lt b t hb; simp [AH.push]; omega
    · intro b t hb
      simp only [grow] at hb
      split at hb
      · obtain rfl := Option.some.inj hb; simp
      · have := hr.blkLt b t hb; simp; omega
    · intro b c' op' ro' esz' hb
      rw [AH.get_push] at hb
      by_cases e : b = h.n
      · subst e; rw [if_pos rfl] at hb; cases hb
      · rw [if_neg e] at hb
        obtain ⟨t', g1, g2, g3, g4, g5, g6⟩ := hr.cells b c' op' ro' esz' hb
        have hlt := hr.blkLt b t' g1
        refine ⟨t', hsub _ _ g1, g2, g3, g4, fun hf => by rw [heap_alloc_old w _ _ hlt]; exact g5 hf, fun k v hk => ?_⟩
        obtain ⟨hc, v', h9, h10⟩ := g6 k v hk
        exact ⟨hc, v', by rw [World.cell?_alloc_lt _ _ _ hlt]; exact h9, h10.mono hsub⟩
    · intro b es clk hb
      rw [AH.get_push] at hb
      by_cases e : b = h.n
      · subst e
        rw [if_pos rfl] at hb
        simp only [Option.some.injEq, Blk.map.injEq] at hb
        obtain ⟨rfl, rfl⟩ := hb
        exact ⟨_, #[], grow_new φ h.n _, rfl, hnew, rfl, fun i e e' h1 => by simp at h1⟩
      · rw [if_neg e] at hb
        obtain ⟨t', es', g1, g2, g3, g4⟩ := hr.maps b es clk hb
        have hlt := hr.blkLt b t' g1
        exact ⟨t', es', hsub _ _ g1, g2, by rw [heap_alloc_old w _ _ hlt]; exact g3, g4.len, fun i e e' h1 h2 => let ⟨a, b, c, d⟩ := g4.at_ i e e' h1 h2; ⟨a, b, c, d.mono hsub⟩⟩
    · intro b1 b2 x x' t1 t2 hx hx' h1 h2 he
      rw [AH.get_push] at hx hx'
      simp only [grow] at h1 h2
      by_cases e1 : b1 = h.n
      · by_cases e2 : b2 = h.n
        · exact .inl (e1.trans e2.symm)
        · rw [if_pos e1] at h1
          rw [if_neg e2] at h2
          obtain rfl := Option.some.inj h1
          have := hr.blkLt b2 t2 h2
          simp at he; omega
      · rw [if_neg e1] at h1 hx
        by_cases e2 : b2 = h.n
        · rw [if_pos e2] at h2
          obtain rfl := Option.some.inj h2
          have := hr.blkLt b1 t1 h1
          simp at he; omega
        · rw [if_neg e2] at h2 hx'
          exact hr.inj b1 b2 _ _ t1 t2 hx hx' h1 h2 he
    · intro b x hx
      rw [AH.get_push] at hx
      by_cases e : b = h.n
      · simp [AH.push, e]
      · rw [if_neg e] at hx
        have := hr.gets b x hx
        simp [AH.push]; omega
    · intro b c' esz' t' hx ht'
      rw [AH.get_push] at hx
      simp only [grow] at ht'
      by_cases e : b = h.n
      · rw [if_pos e] at ht'
        obtain rfl := Option.some.inj ht'
        rfl
      · rw [if_neg e] at hx ht'
        exact hr.sh0 _ _ _ _ hx ht'

/-- entries that turned -/
theorem putE_rel {φ : Emb} {d : TypeDesc} {k v c : Value} (hk : keyOk d k = true) (hv : VR φ v c) {es : List MapEntry} {es' : Array MapEntry} {clk : Nat} (hm : MapRel φ es es'.toList) (ho : keysOk d es = true) :
    ∃ es2', MapRel φ (putE k v es clk).1 es2'.toList ∧ ∀ {P : Program} {w : World} {t kt e : TypeId} {r : Nat}, P.underlying t = some (.map kt e) → P.underlying kt = some d → w.heap[r]? = some (.map es' clk) →
      (Instr.mapUpdate t (.map (some r)) k c).run P w = .ok () { w with heap := w.heap.setIfInBounds r (.map es2' (putE k v es clk).2) } := by
  unfold putE
  cases hf : afind k es 0 with
  | none =>
    refine ⟨es'.push ⟨k, c, clk⟩, ⟨by simp [hm.len], fun i e e' h1 h2 => ?_⟩, fun hd hkd hw => ?_⟩
    · simp only [Array.toList_push] at h2
      have hlen := hm.len
      rcases Nat.lt_or_ge i es.length with hi | hi
      · rw [List.getElem?_append_left hi] at h1
        rw [List.getElem?_append_left (by omega)] at h2
        exact hm.at_ i e e' h1 h2
      · rw [List.getElem?_append_right hi] at h1
        rw [List.getElem?_append_right (by omega)] at h2
        rw [hlen] at h1
        cases hj : i - es'.toList.length with
        | zero =>
          rw [hj] at h1 h2
          simp only [List.getElem?_cons_zero, Option.some.injEq] at h1 h2
          subst h1
          subst h2
          exact ⟨keyOk_flat hk, rfl, rfl, hv⟩
        | succ j => rw [hj] at h1; simp at h1
    · have h1 := afind_none hk hm ho hf
      simp [Instr.mapUpdate, Go.run_underlying hd, run_getObj_map hw, run_checkKey hkd (keyOk_isKey hk), run_findKey hkd h1, run_setObj_map _ hw, Result.andThen]
  | some p =>
    obtain ⟨j, e, e', rfl, g2, g3, g4, g5, g6⟩ := afind_some hk hm ho hf
    simp only [Nat.zero_add] at g5 ⊢
    refine ⟨es'.modify j (fun x => { x with key := k, val := c }), ⟨by simp [hm.len], fun i x x' h1 h2 => ?_⟩, fun hd hkd hw => ?_⟩
    · simp only [Array.toList_modify, List.getElem?_modify] at h1 h2
      by_cases hij : j = i
      · subst hij
        simp only [g2, if_true, Option.map_eq_map, Option.map_some, Option.some.injEq] at h1
        simp only [g3, if_true, Option.map_eq_map, Option.map_some, Option.some.injEq] at h2
        subst h1
        subst h2
        obtain ⟨_, _, q3, _⟩ := hm.at_ j e e' g2 g3
        exact ⟨keyOk_flat hk, rfl, q3, hv⟩
      · simp only [if_neg hij, Option.map_eq_map, Option.map_id'] at h1 h2
        exact hm.at_ i x x' (by simpa using h1) (by simpa using h2)
    · have hj : es'[j]? = some e' := by simpa using g3
      have hke : e'.key = k := by obtain ⟨_, q2, _, _⟩ := hm.at_ j e e' g2 g3; rw [q2, g4]
      simp [Instr.mapUpdate, Go.run_underlying hd, run_getObj_map hw, run_checkKey hkd (keyOk_isKey hk), run_findKey hkd g5, hj, hke, run_keyThatStays (keyOk_isKey hk), run_setObj_map _ hw, Result.andThen]
theorem delE_rel {φ : Emb} {d : TypeDesc} {k : Value} (hk : keyOk d k = true) {es : List MapEntry} {es' : Array MapEntry} {clk : Nat} (hm : MapRel φ es es'.toList) (ho : keysOk d es = true) :
    ∃ es2', MapRel φ (delE k es) es2'.toList ∧ ∀ {P : Program} {w : World} {t kt e tk ty : TypeId} {r : Nat}, P.underlying t = some (.map kt e) → P.underlying kt = some d → w.heap[r]? = some (.map es' clk) →
      (Builtin.delete_ #[t, tk] ty #[.map (some r), k]).run P w = .ok (.tuple #[]) { w with heap := w.heap.setIfInBounds r (.map es2' clk) } := by
  unfold delE
  cases hf : afind k es 0 with
  | none =>
    refine ⟨es', hm, fun hd hkd hw => ?_⟩
    have h1 := afind_none hk hm ho hf
    simp [Builtin.delete_, Go.run_underlying hd, run_getObj_map hw, run_checkKey hkd (keyOk_isKey hk), run_findKey hkd h1, run_setObj_map _ hw, Result.andThen]
  | some p =>
    obtain ⟨j, e, e', rfl, g2, g3, g4, g5, g6⟩ := afind_some hk hm ho hf
    simp only [Nat.zero_add] at g5 ⊢
    have hjs : j < es'.size := by simpa using (List.getElem?_eq_some_iff.1 g3).1
    have hsub : (es'.eraseIdxIfInBounds j).toList = es'.toList.eraseIdx j := by
      unfold Array.eraseIdxIfInBounds
      rw [dif_pos hjs]
      simp
    refine ⟨es'.eraseIdxIfInBounds j, ⟨?_, fun i x x' h1 h2 => ?_⟩, fun hd hkd hw => ?_⟩
    · rw [hsub]
      have hl := hm.len
      simp only [List.length_eraseIdx, hl]
    · rw [hsub] at h2
      rw [List.getElem?_eraseIdx] at h1 h2
      split at h1
      · rename_i hi; rw [if_pos hi] at h2; exact hm.at_ i x x' h1 h2
      · rename_i hi; rw [if_neg hi] at h2; exact hm.at_ (i + 1) x x' h1 h2
    · simp [Builtin.delete_, Go.run_underlying hd, run_getObj_map hw, run_checkKey hkd (keyOk_isKey hk), run_findKey hkd g5, run_setObj_map _ hw, Result.andThen]

section
variable {P : Program} {φ : Emb} {h : AH} {w : World} {a : Act} {tm : T Value} {nt : Nat} {K : Option Value → AH → Res} {r : Value × AH} {O : Orc} {dst : Option Tmp} {ty : TypeId} {pos : String} {after : Array Edge} {guard : Option (Nat × Bool)}

theorem adel_sound {t tk ty e : TypeId} {d : TypeDesc} {m k m' k' : Value} {h' : AH} (hr : HRel φ h w) (hty : mapTy P t = some (d, e)) (hm : VR φ m m') (hk : VR φ k k') (hd : adel d m k h = some h') :
    ∃ w', (Builtin.delete_ #[t, tk] ty #[m', k']).run P w = .ok (.tuple #[]) w' ∧ Good φ w h' w' φ := by
  obtain ⟨kt, h1, h2⟩ := mapTy_inv hty
  unfold adel at hd
  split at hd
  · obtain rfl := vr_nilM hm
    cases hb : keyOk d k with
    | false => rw [hb, cond_false] at hd; cases hd
    | true =>
      rw [hb, cond_true] at hd
      obtain rfl := Option.some.inj hd
      obtain rfl := vr_key hb hk
      exact ⟨w, by simp [Builtin.delete_, Go.run_underlying h1, run_checkKey h2 (keyOk_isKey hb), Result.andThen], .refl hr⟩
  · rename_i b
    obtain ⟨tg, g1, rfl⟩ := vr_map hm
    split at hd
    · rename_i es clk hget
      cases hb : (keyOk d k && keysOk d es) with
      | false => rw [hb, cond_false] at hd; cases hd
      | true =>
        rw [hb, cond_true] at hd
        obtain rfl := Option.some.inj hd
        rw [Bool.and_eq_true] at hb
        obtain rfl := vr_key hb.1 hk
        obtain ⟨t0, es', q1, q2, q3, q4⟩ := hr.maps b es clk hget
        rw [g1] at q1
        obtain rfl := Option.some.inj q1
        obtain ⟨es2', p1, p2⟩ := delE_rel hb.1 (clk := clk) q4 hb.2
        exact ⟨_, p2 h1 h2 q3, set_map_good hr hget g1 p1⟩
    · cases hd
  · cases hd

theorem ok_mapUpdate {t : TypeId} {m k x : Operand} (hr : HRel φ h w) (ht : TR φ tm nt a.tmps) (hk : evOp P O tm (.mapUpdate t m k x) h K = some r) : OpOK P φ h w a ⟨dst, .mapUpdate t m k x, ty, pos, after, guard⟩ K r := by
  simp only [evOp, Option.bind_eq_some_iff] at hk
  obtain ⟨mv, hm, kv, hkv, v, hv, ⟨d, e⟩, hty, h', hput, hk⟩ := hk
  obtain ⟨kt, h1, h2⟩ := mapTy_inv hty
  have hmr := opv_rel ht hm
  have hkr := opv_rel ht hkv
  unfold aput at hput
  split at hput
  · rename_i b
    obtain ⟨tg, g1, hmc⟩ := vr_map hmr
    split at hput
    · rename_i es clk hget
      cases hb : (keyOk d kv && keysOk d es) with
      | false => rw [hb, cond_false] at hput; cases hput
      | true =>
        rw [hb, cond_true] at hput
        obtain rfl := Option.some.inj hput
        rw [Bool.and_eq_true] at hb
        have hkc := vr_key hb.1 hkr
        obtain ⟨t0, es', q1, q2, q3, q4⟩ := hr.maps b es clk hget
        rw [g1] at q1
        obtain rfl := Option.some.inj q1
        obtain ⟨es2', p1, p2⟩ := putE_rel hb.1 (opv_rel ht hv) (clk := clk) q4 hb.2
        refine ⟨φ, none, _, undef, _, .inr ⟨?_, rfl⟩, set_map_good (clk2 := (putE kv v es clk).2) hr hget g1 p1, (fun x hx => nomatch hx), hk⟩
        simp only [execOp, hmc, hkc]
        simp [p2 h1 h2 q3]
    · cases hput
  · cases hput

theorem ok_makeMap {t : TypeId} {x : Option Operand} (hr : HRel φ h w) (ht : TR φ tm nt a.tmps) (hk : evOp P O tm (.makeMap t x) h K = some r) : OpOK P φ h w a ⟨dst, .makeMap t x, ty, pos, after, guard⟩ K r := by
  simp only [evOp, Option.bind_eq_some_iff] at hk
  obtain ⟨v, hx, hk⟩ := hk
  cases hb : (intO v && isMapT P t) with
  | false => rw [hb, cond_false] at hk; cases hk
  | true =>
    rw [hb, cond_true] at hk
    rw [Bool.and_eq_true] at hb
    refine .good (c := .map (some w.heap.size)) (w' := w.alloc (.map #[] 0)) (run_v ?_) (push_map_good hr) (.map (grow_new φ h.n ⟨w.heap.size, 0, 0, 0, false⟩)) hk
    have hT : ∃ k e, P.underlying t = some (.map k e) := by
      have := hb.2
      unfold isMapT at this
      split at this
      · exact ⟨_, _, by assumption⟩
      · cases this
    obtain ⟨kt, e, hu⟩ := hT
    cases x with
    | none => simp [Instr.makeMap, Result.andThen]
    | some o =>
      simp only [optv, Option.bind_eq_some_iff, Option.some.injEq] at hx
      obtain ⟨u, hu1, rfl⟩ := hx
      have := hb.1
      unfold intO at this
      split at this
      · rename_i e; cases e
      · rename_i k n e
        obtain rfl := Option.some.inj e
        have hc := vr_int (opv_rel ht hu1)
        simp [Instr.makeMap, Result.andThen, hc, Go.run_underlying hu, asInt, asIntOf]
      · cases this

theorem ok_lookup {t : TypeId} {x i : Operand} {ok : Bool} (hr : HRel φ h w) (ht : TR φ tm nt a.tmps) (hk : evOp P O tm (.lookup t x i ok) h K = some r) : OpOK P φ h w a ⟨dst, .lookup t x i ok, ty, pos, after, guard⟩ K r := by
  simp only [evOp, Option.bind_eq_some_iff] at hk
  obtain ⟨mv, hm, kv, hkv, ⟨d, e⟩, hty, es, hes, ⟨v, b⟩, hl, hk⟩ := hk
  have hk := castT_inv hk
  obtain ⟨kt, h1, h2⟩ := mapTy_inv hty
  have hmr := opv_rel ht hm
  have hkr := opv_rel ht hkv
  -- the entries in the world
  obtain ⟨es', hmrel, hget⟩ : ∃ es' : Array MapEntry, MapRel φ es es'.toList ∧ ((a.eval x = .map none ∧ es' = #[]) ∨ ∃ r' clk, a.eval x = .map (some r') ∧ w.heap[r']? = some (.map es' clk)) := by
    unfold mapOf at hes
    split at hes
    · obtain rfl := Option.some.inj hes
      exact ⟨#[], ⟨rfl, fun i e e' h1 => by simp at h1⟩, .inl ⟨vr_nilM hmr, rfl⟩⟩
    · rename_i b'
      split at hes
      · rename_i es0 clk hb
        obtain rfl := Option.some.inj hes
        obtain ⟨tg, g1, hmc⟩ := vr_map hmr
        obtain ⟨t0, es', q1, q2, q3, q4⟩ := hr.maps b' es0 clk hb
        rw [g1] at q1
        obtain rfl := Option.some.inj q1
        exact ⟨es', q4, .inr ⟨_, clk, hmc, q3⟩⟩
      · cases hes
    · cases hes
  unfold lookE at hl
  cases hb : (keyOk d kv && keysOk d es) with
  | false => rw [hb, cond_false] at hl; cases hl
  | true =>
    rw [hb, cond_true] at hl
    rw [Bool.and_eq_true] at hb
    have hkc := vr_key hb.1 hkr
    have hrun : ∃ c, VR φ v c ∧ (Instr.lookup t (a.eval x) (a.eval i) ok).run P w = .ok (if ok then .tuple #[c, .bool b] else c) w := by
      cases hf : afind kv es 0 with
      | none =>
        rw [hf] at hl
        simp only [Option.bind_eq_some_iff, Option.some.injEq, Prod.mk.injEq] at hl
        obtain ⟨z, hz, rfl, rfl⟩ := hl
        unfold zeroOf at hz
        simp only [Option.bind_eq_some_iff] at hz
        obtain ⟨inf, hi, z', hz', hc⟩ := hz
        cases hfl : flat z' with
        | false => rw [hfl, cond_false] at hc; cases hc
        | true =>
          rw [hfl, cond_true] at hc
          obtain rfl := Option.some.inj hc
          refine ⟨z', flat_VR hfl, ?_⟩
          have hfn := afind_none hb.1 hmrel hb.2 hf
          rcases hget with ⟨e1, rfl⟩ | ⟨r', clk, e1, hw⟩
          · simp [Instr.lookup, Go.run_underlying h1, e1, hkc, run_checkKey h2 (keyOk_isKey hb.1), run_findKey h2 hfn, run_zeroValue' hi hz', Result.andThen]
          · simp [Instr.lookup, Go.run_underlying h1, e1, hkc, run_getObj_map hw, run_checkKey h2 (keyOk_isKey hb.1), run_findKey h2 hfn, run_zeroValue' hi hz', Result.andThen]
      | some p =>
        rw [hf] at hl
        simp only [Option.some.injEq, Prod.mk.injEq] at hl
        obtain ⟨rfl, rfl⟩ := hl
        obtain ⟨j, e0, e0', rfl, g2, g3, g4, g5, g6⟩ := afind_some hb.1 hmrel hb.2 hf
        refine ⟨e0'.val, g6, ?_⟩
        rcases hget with ⟨e1, rfl⟩ | ⟨r', clk, e1, hw⟩
        · simp at g3
        · simp [Instr.lookup, Go.run_underlying h1, e1, hkc, run_getObj_map hw, run_checkKey h2 (keyOk_isKey hb.1), run_findKey h2 g5, Result.andThen]
    obtain ⟨c, hc, hrun⟩ := hrun
    refine .value hr (run_v hrun) ?_ hk
    cases ok with
    | false => exact hc
    | true =>
      simp only [cond_true, if_true]
      exact .tuple rfl fun i v1 v2 h1 h2 => by
        match i with
        | 0 => simp at h1 h2; subst h1; subst h2; exact hc
        | 1 => simp at h1 h2; subst h1; subst h2; exact .bool _
        | n + 2 => simp at h1
end
end Go.Lg
