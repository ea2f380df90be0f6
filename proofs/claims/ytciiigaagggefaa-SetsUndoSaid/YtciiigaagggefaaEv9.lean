/- Soundness of the evaluator. Part 9: slices and appends. -/
import Derived.Test.YtciiigaagggefaaEv21
import Derived.Laws.Slices
namespace Go.Lg
open Go

theorem vr_slice {φ : Emb} {a : Addr} {n cap : Nat} {c : Value} (h : VR φ (.slice (some a) n cap) c) :
    (∃ t a', φ a.block = some t ∧ t.ro = true ∧ a.spot = none ∧ n = 0 ∧ cap = 0 ∧ c = .slice (some a') 0 0) ∨ ∃ t ra c', φ a.block = some t ∧ a.spot = none ∧ c = .slice (some ⟨t.blk, ra, none⟩) n c' ∧
      ((cap < opn ∧ c' = cap ∧ (ra = t.sh + a.off ∨ (n = 0 ∧ cap = 0))) ∨
       (cap = opn ∧ n ≤ c' ∧ t.sh + a.off + c' * t.esz = t.tot ∧ (ra = t.sh + a.off ∨ (n = 0 ∧ c' = 0)))) := by
  cases h with
  | sliceV h1 h2 => exact .inl ⟨_, _, h1, h2, rfl, rfl, rfl, rfl⟩
  | slice h1 h2 => exact .inr ⟨_, _, _, h1, rfl, rfl, .inl ⟨h2, rfl, .inl rfl⟩⟩
  | sliceO h1 h2 h3 => exact .inr ⟨_, _, _, h1, rfl, rfl, .inr ⟨rfl, h3, h2, .inl rfl⟩⟩
  | sliceE h1 h2 => exact .inr ⟨_, _, _, h1, rfl, rfl, .inr ⟨rfl, Nat.le_refl _, by simpa using h2, .inr ⟨rfl, rfl⟩⟩⟩
  | sliceZ h1 => exact .inr ⟨_, _, _, h1, rfl, rfl, .inl ⟨by decide, rfl, .inr ⟨rfl, rfl⟩⟩⟩
theorem vr_sliceN {φ : Emb} {n cap : Nat} {c : Value} (h : VR φ (.slice none n cap) c) : n = 0 ∧ cap = 0 ∧ c = .slice none 0 0 := by
  cases h; exact ⟨rfl, rfl, rfl⟩
theorem mk_slice {φ : Emb} {b o n c ra : Nat} {t : Tgt} (h : φ b = some t) (hc : c < opn) (hr : ra = t.sh + o ∨ (n = 0 ∧ c = 0)) : VR φ (.slice (some ⟨b, o, none⟩) n c) (.slice (some ⟨t.blk, ra, none⟩) n c) := by
  rcases hr with rfl | ⟨rfl, rfl⟩
  · exact .slice h hc
  · exact .sliceZ h
theorem mk_sliceO {φ : Emb} {b o n c ra : Nat} {t : Tgt} (h : φ b = some t) (hn : n ≤ c) (ht : t.sh + o + c * t.esz = t.tot) (hr : ra = t.sh + o ∨ (n = 0 ∧ c = 0)) : VR φ (.slice (some ⟨b, o, none⟩) n opn) (.slice (some ⟨t.blk, ra, none⟩) n c) := by
  rcases hr with rfl | ⟨rfl, rfl⟩
  · exact .sliceO h ht hn
  · exact .sliceE h (by simpa using ht)

section
variable {P : Program} {φ : Emb} {h : AH} {w : World} {a : Act} {tm : T Value} {nt : Nat} {r : Value × AH}

/-- a bound of a slice expression -/
def BR (P : Program) (a : Act) (w : World) (x : Option Operand) (dflt n : Nat) (top : Nat) : Prop :=
  n ≤ max dflt top ∧ (x = none → n = dflt) ∧ (x ≠ none → n ≤ top) ∧ ∀ (top' : Nat) (code : BoundsCode), top ≤ top' → ∀ v, x.map a.eval = some v → (Instr.sliceBound v top' code).run P w = .ok n w
theorem boundOf_inv (ht : TR φ tm nt a.tmps) {x : Option Operand} {xv : Option Value} (hxv : optv tm x = some xv) {dflt top : Nat} {K : Nat → Res} (hk : boundOf xv dflt top K = some r) : ∃ n, K n = some r ∧ BR P a w x dflt n top := by
  cases x with
  | none =>
    simp only [optv, Option.some.injEq] at hxv
    subst hxv
    exact ⟨dflt, hk, by omega, fun _ => rfl, fun h => (h rfl).elim, fun _ _ _ v hv => by simp at hv⟩
  | some x =>
    simp only [optv, Option.bind_eq_some_iff, Option.some.injEq] at hxv
    obtain ⟨u, hx, rfl⟩ := hxv
    unfold boundOf at hk
    split at hk
    · rename_i e; cases e
    · rename_i k i e
      obtain rfl := Option.some.inj e
      cases hb : inBe i top with
      | false => rw [hb, cond_false] at hk; cases hk
      | true =>
        rw [hb, cond_true] at hk
        obtain ⟨h1, h2⟩ := inBe_iff.1 hb
        refine ⟨i.toNat, hk, by omega, fun h => (by cases h), fun _ => (by omega), fun top' code htop v hv => ?_⟩
        simp at hv
        subst hv
        rw [vr_int (opv_rel ht hx)]
        exact run_sliceBound w k i top' code h1 (by omega)
    · cases hk

theorem optv_none {x : Option Operand} (h : optv tm x = some none) : x = none := by
  cases x with
  | none => rfl
  | some x =>
    simp only [optv, Option.bind_eq_some_iff] at h
    obtain ⟨u, _, h2⟩ := h
    cases h2
theorem optv_some {x : Option Operand} {v : Value} (h : optv tm x = some (some v)) : ∃ o, x = some o := by
  cases x with
  | none => simp [optv] at h
  | some x => exact ⟨x, rfl⟩

/-- the three bounds of a slice expression -/
theorem bounds2 {lo hi : Option Operand} {len cap l hh top : Nat} {b : Bool} (h1 : BR P a w hi len hh top) (h2 : BR P a w lo 0 l hh) (htop : top ≤ cap) :
    (Instr.sliceBounds b len cap (lo.map a.eval) (hi.map a.eval) none).run P w = .ok (l, hh, cap) w := by
  obtain ⟨g1, g2, g3, g4⟩ := h1
  obtain ⟨k1, k2, k3, k4⟩ := h2
  cases hi with
  | none =>
    have := g2 rfl; subst this
    cases lo with
    | none => have := k2 rfl; subst this; simp [Instr.sliceBounds]
    | some x =>
      have e := k4 hh (if (none : Option Value).isSome then .slice3C else .sliceB) (Nat.le_refl _) _ rfl
      simp only [Instr.sliceBounds, Option.map_none, Option.map_some, Sem.run_bind, Sem.run_pure, Result.andThen_ok, e]
  | some y =>
    have eh := g4 cap (if b then .sliceAcap else .sliceAlen) htop _ rfl
    cases lo with
    | none => have := k2 rfl; subst this; simp only [Instr.sliceBounds, Option.map_none, Option.map_some, Sem.run_bind, Sem.run_pure, Result.andThen_ok, eh]
    | some x =>
      have e := k4 hh (if (none : Option Value).isSome then .slice3C else .sliceB) (Nat.le_refl _) _ rfl
      simp only [Instr.sliceBounds, Option.map_some, Sem.run_bind, Sem.run_pure, Result.andThen_ok, eh, e]
theorem bounds3 {lo : Option Operand} {hi mx : Operand} {len cap l hh m top d e : Nat} {b : Bool} (h0 : BR P a w (some mx) d m top) (h1 : BR P a w (some hi) e hh m) (h2 : BR P a w lo 0 l hh) (htop : top ≤ cap) :
    (Instr.sliceBounds b len cap (lo.map a.eval) (some (a.eval hi)) (some (a.eval mx))).run P w = .ok (l, hh, m) w := by
  obtain ⟨f1, f2, f3, f4⟩ := h0
  obtain ⟨g1, g2, g3, g4⟩ := h1
  obtain ⟨k1, k2, k3, k4⟩ := h2
  have em := f4 cap (if b then .slice3Acap else .slice3Alen) htop _ rfl
  have eh := g4 m .slice3B (Nat.le_refl _) _ rfl
  cases lo with
  | none => have := k2 rfl; subst this; simp only [Instr.sliceBounds, Option.map_none, Sem.run_bind, Sem.run_pure, Result.andThen_ok, em, eh]
  | some x =>
    have e := k4 hh (if (some (a.eval mx) : Option Value).isSome then .slice3C else .sliceB) (Nat.le_refl _) _ rfl
    simp only [Instr.sliceBounds, Option.map_some, Sem.run_bind, Sem.run_pure, Result.andThen_ok, em, eh, e]

theorem run_slice_of {t e : TypeId} {ad : Option Addr} {len cap l hh m sz : Nat} {lo hi mx : Option Value} (hd : P.underlying t = some (.slice e)) (hsz : (sizeOf e).run P w = .ok sz w)
    (hb : (Instr.sliceBounds true len cap lo hi mx).run P w = .ok (l, hh, m) w) :
    (Instr.sliceAt t (.slice ad len cap) lo hi mx).run P w = .ok (.slice (if m = l then ad else ad.map (·.add (l * sz))) (hh - l) (m - l)) w := by
  simp only [Instr.sliceAt, Sem.run_bind, run_underlying' hd, Result.andThen_ok, Instr.slice, hb, hsz, Sem.run_pure]

variable {K : Option Value → AH → Res} {O : Orc} {dst : Option Tmp} {ty : TypeId} {pos : String} {after : Array Edge} {guard : Option (Nat × Bool)}

theorem ok_slice0 {t : TypeId} {x : Operand} {v : Value} {lo hi mx : Option Operand} {lov hiv mxv : Option Value} (hr : HRel φ h w) (ht : TR φ tm nt a.tmps) (hv : VR φ v (a.eval x)) (hlo : optv tm lo = some lov) (hhi : optv tm hi = some hiv) (hmx : optv tm mx = some mxv)
    (hk : evSlice P t v lov hiv mxv h (fun v h => K (some v) h) = some r) : OpOK P φ h w a ⟨dst, .slice t x lo hi mx, ty, pos, after, guard⟩ K r := by
  unfold evSlice at hk
  split at hk
  · -- strings
    rename_i s hd
    split at hk
    · cases hk
    · obtain rfl := optv_none hmx
      obtain ⟨hh, hk, b1⟩ := boundOf_inv (P := P) (w := w) ht hhi hk
      obtain ⟨l, hk, b2⟩ := boundOf_inv (P := P) (w := w) ht hlo hk
      have hc := vr_string hv
      refine .value hr (c := .string ⟨((s.data.toList.drop l).take (hh - l)).toArray⟩) (run_v ?_) (.string _) hk
      have hb := bounds2 (b := false) b1 b2 (Nat.le_refl _)
      have hsz : s.data.toList.length = s.size := by simp
      rw [hsz] at hb
      have e : s.extract l hh = ⟨((s.data.toList.drop l).take (hh - l)).toArray⟩ := by
        apply ByteArray.ext
        apply Array.ext'
        rw [Lib.extract_data]
      have hns : ∀ (q : Sem Value), (match (TypeDesc.string : TypeDesc) with | .array _ _ => q | _ => Instr.slice t (.string s) (lo.map a.eval) (hi.map a.eval) none) = Instr.slice t (.string s) (lo.map a.eval) (hi.map a.eval) none := fun _ => rfl
      simp only [Instr.sliceAt, Sem.run_bind, run_underlying' hd, Result.andThen_ok, hc, Option.map_none, Instr.slice, Option.isSome_none, Bool.false_eq_true, if_false, hb, Sem.run_pure, e]
  · rename_i e ad len cap hd
    simp only [Option.bind_eq_some_iff] at hk
    obtain ⟨sz, h1, hk⟩ := hk
    obtain ⟨ie, hie, rfl⟩ := sizeT_inv h1
    have hsz := run_sizeOf' hie w
    split at hk
    · -- nil
      obtain ⟨rfl, rfl, hc⟩ := vr_sliceN hv
      simp only [Nat.beq_refl, Bool.and_self, cond_true] at hk
      split at hk
      · obtain rfl := optv_none hmx
        obtain ⟨hh, hk, b1⟩ := boundOf_inv (P := P) (w := w) ht hhi hk
        obtain ⟨l, hk, b2⟩ := boundOf_inv (P := P) (w := w) ht hlo hk
        refine .value hr (c := .slice none 0 0) (run_v ?_) .nilS hk
        have hb := bounds2 (b := true) b1 b2 (Nat.le_refl _)
        rw [hc, Option.map_none, run_slice_of hd hsz hb]
        have : hh = 0 := by have := b1.1; simpa using this
        subst this
        simp
      · obtain ⟨mxo, rfl⟩ := optv_some hmx
        cases hiv with
        | none => cases hk
        | some hiu =>
          obtain ⟨hio, rfl⟩ := optv_some hhi
          rw [show (some hiu : Option Value).isSome = true from rfl, cond_true] at hk
          obtain ⟨m, hk, b0⟩ := boundOf_inv (P := P) (w := w) ht hmx hk
          obtain ⟨hh, hk, b1⟩ := boundOf_inv (P := P) (w := w) ht hhi hk
          obtain ⟨l, hk, b2⟩ := boundOf_inv (P := P) (w := w) ht hlo hk
          refine .value hr (c := .slice none 0 0) (run_v ?_) .nilS hk
          have hm : m = 0 := by have := b0.1; simpa using this
          subst hm
          have hhh : hh = 0 := by have := b1.1; simpa using this
          subst hhh
          have hb := bounds3 (b := true) (len := 0) b0 b1 b2 (Nat.le_refl _)
          rw [hc, Option.map_some, Option.map_some, run_slice_of hd hsz hb]
          simp
    · rename_i ad
      rcases vr_slice hv with ⟨t', a', hφ, hro, hsp, rfl, rfl, hc⟩ | ⟨t', ra, c', hφ, hsp, hc, hcase⟩
      · have hb1 : Nat.blt 0 opn = true := by decide
        rw [hb1, cond_true] at hk
        have hfin : ∀ (hh l m : Nat), hh = 0 → l = 0 → m = 0 → VR φ (.slice (some ⟨ad.block, ad.off + cond (Nat.beq l m) 0 (l * ie.size), none⟩) (hh - l) (m - l)) (.slice (some a') (hh - l) (m - l)) := by
          rintro _ _ _ rfl rfl rfl
          exact .sliceV hφ hro
        split at hk
        · obtain rfl := optv_none hmx
          obtain ⟨hh, hk, b1⟩ := boundOf_inv (P := P) (w := w) ht hhi hk
          obtain ⟨l, hk, b2⟩ := boundOf_inv (P := P) (w := w) ht hlo hk
          have hb := bounds2 (b := true) b1 b2 (Nat.le_refl _)
          have hh0 : hh = 0 := by have := b1.1; omega
          have hl0 : l = 0 := by have := b2.1; omega
          refine .value hr (c := .slice (some a') (hh - l) (0 - l)) (run_v ?_) (hfin hh l 0 hh0 hl0 rfl) hk
          rw [hc, Option.map_none, run_slice_of hd hsz hb, hl0, if_pos rfl]
        · obtain ⟨mxo, rfl⟩ := optv_some hmx
          cases hiv with
          | none => cases hk
          | some hiu =>
            obtain ⟨hio, rfl⟩ := optv_some hhi
            rw [show (some hiu : Option Value).isSome = true from rfl, cond_true] at hk
            obtain ⟨m, hk, b0⟩ := boundOf_inv (P := P) (w := w) ht hmx hk
            obtain ⟨hh, hk, b1⟩ := boundOf_inv (P := P) (w := w) ht hhi hk
            obtain ⟨l, hk, b2⟩ := boundOf_inv (P := P) (w := w) ht hlo hk
            have hb := bounds3 (b := true) (len := 0) b0 b1 b2 (Nat.le_refl _)
            have hm := b0.2.2.1 (by simp)
            have hhm := b1.2.2.1 (by simp)
            have hm0 : m = 0 := by omega
            have hh0 : hh = 0 := by omega
            have hl0 : l = 0 := by have := b2.1; omega
            refine .value hr (c := .slice (some a') (hh - l) (m - l)) (run_v ?_) (hfin hh l m hh0 hl0 hm0) hk
            rw [hc, Option.map_some, Option.map_some, run_slice_of hd hsz hb, hl0, hm0, if_pos rfl]
      have haddr : ∀ (m l : Nat), (if m = l then some (⟨t'.blk, ra, none⟩ : Addr) else (some (⟨t'.blk, ra, none⟩ : Addr)).map (·.add (l * ie.size))) = some ⟨t'.blk, ra + cond (Nat.beq l m) 0 (l * ie.size), none⟩ := by
        intro m l
        by_cases e : m = l
        · subst e; simp
        · have : Nat.beq l m = false := by
            cases hb : Nat.beq l m with
            | false => rfl
            | true => exact absurd (Nat.eq_of_beq_eq_true hb).symm e
          simp [e, this, add_lit]
      rcases hcase with ⟨hlt, rfl, hra⟩ | ⟨rfl, hle, htot, hra⟩
      · have hb1 : Nat.blt c' opn = true := Nat.ble_eq_true_of_le hlt
        rw [hb1, cond_true] at hk
        split at hk
        · obtain rfl := optv_none hmx
          obtain ⟨hh, hk, b1⟩ := boundOf_inv (P := P) (w := w) ht hhi hk
          obtain ⟨l, hk, b2⟩ := boundOf_inv (P := P) (w := w) ht hlo hk
          have hb := bounds2 (b := true) b1 b2 (Nat.le_refl _)
          refine .value hr (c := .slice (some ⟨t'.blk, ra + cond (Nat.beq l c') 0 (l * ie.size), none⟩) (hh - l) (c' - l)) (run_v ?_) ?_ hk
          · rw [hc, Option.map_none, run_slice_of hd hsz hb, haddr]
          · refine mk_slice hφ (by omega) ?_
            rcases hra with h1 | ⟨h1, h2⟩
            · exact .inl (by omega)
            · exact .inr (by have := b1.1; omega)
        · obtain ⟨mxo, rfl⟩ := optv_some hmx
          cases hiv with
          | none => cases hk
          | some hiu =>
            obtain ⟨hio, rfl⟩ := optv_some hhi
            rw [show (some hiu : Option Value).isSome = true from rfl, cond_true] at hk
            obtain ⟨m, hk, b0⟩ := boundOf_inv (P := P) (w := w) ht hmx hk
            obtain ⟨hh, hk, b1⟩ := boundOf_inv (P := P) (w := w) ht hhi hk
            obtain ⟨l, hk, b2⟩ := boundOf_inv (P := P) (w := w) ht hlo hk
            have hb := bounds3 (b := true) (len := len) b0 b1 b2 (Nat.le_refl _)
            have hm := b0.2.2.1 (by simp)
            have hhm := b1.2.2.1 (by simp)
            refine .value hr (c := .slice (some ⟨t'.blk, ra + cond (Nat.beq l m) 0 (l * ie.size), none⟩) (hh - l) (m - l)) (run_v ?_) ?_ hk
            · rw [hc, Option.map_some, Option.map_some, run_slice_of hd hsz hb, haddr]
            · refine mk_slice hφ (by omega) ?_
              rcases hra with h1 | ⟨h1, h2⟩
              · exact .inl (by omega)
              · exact .inr (by omega)
      · have hb1 : Nat.blt opn opn = false := by decide
        rw [hb1, cond_false] at hk
        cases hs0 : Nat.beq ie.size 0 with
        | true => rw [hs0, cond_true] at hk; cases hk
        | false =>
          rw [hs0, cond_false] at hk
          have hpos : 0 < ie.size := by
            rcases Nat.eq_zero_or_pos ie.size with h0 | h0
            · rw [h0] at hs0; cases hs0
            · exact h0
          split at hk
          · rename_i c op ro esz hbk
            cases hes : Nat.beq esz ie.size with
            | false => rw [hes, cond_false] at hk; cases hk
            | true =>
              rw [hes, cond_true] at hk
              have hes' := Nat.eq_of_beq_eq_true hes
              obtain ⟨t2, g1, g2, g3, g4, _, _⟩ := hr.cells ad.block c op ro esz hbk
              rw [hφ] at g1
              obtain rfl := Option.some.inj g1
              have hesz : t'.esz = ie.size := g3.trans hes'
              have htop : (c.length - ad.off) / ie.size ≤ c' := by
                rw [Nat.div_le_iff_le_mul_add_pred hpos]
                rw [hesz] at htot
                have : ie.size * c' = c' * ie.size := Nat.mul_comm _ _
                omega
              split at hk
              · obtain rfl := optv_none hmx
                obtain ⟨hh, hk, b1⟩ := boundOf_inv (P := P) (w := w) ht hhi hk
                obtain ⟨l, hk, b2⟩ := boundOf_inv (P := P) (w := w) ht hlo hk
                have hb := bounds2 (b := true) b1 b2 htop
                have hhc : hh ≤ c' := by have := b1.1; omega
                have hlh : l ≤ hh := by have := b2.1; omega
                refine .value hr (c := .slice (some ⟨t'.blk, ra + cond (Nat.beq l c') 0 (l * ie.size), none⟩) (hh - l) (c' - l)) (run_v ?_) ?_ hk
                · rw [hc, Option.map_none, run_slice_of hd hsz hb, haddr]
                · refine mk_sliceO hφ (by omega) ?_ ?_
                  · rw [hesz] at htot ⊢
                    have : c' * ie.size = l * ie.size + (c' - l) * ie.size := by rw [← Nat.add_mul, Nat.add_sub_cancel' (by omega)]
                    omega
                  · cases hlc : Nat.beq l c' with
                    | true => have := Nat.eq_of_beq_eq_true hlc; exact .inr (by omega)
                    | false =>
                      rw [cond_false]
                      rcases hra with h1 | ⟨h1, h2⟩
                      · exact .inl (by omega)
                      · exact .inr (by omega)
              · obtain ⟨mxo, rfl⟩ := optv_some hmx
                cases hiv with
                | none => cases hk
                | some hiu =>
                  obtain ⟨hio, rfl⟩ := optv_some hhi
                  rw [show (some hiu : Option Value).isSome = true from rfl, cond_true] at hk
                  obtain ⟨m, hk, b0⟩ := boundOf_inv (P := P) (w := w) ht hmx hk
                  cases hmo : Nat.blt m opn with
                  | false => rw [hmo, cond_false] at hk; cases hk
                  | true =>
                  rw [hmo, cond_true] at hk
                  have hmlt : m < opn := Nat.le_of_ble_eq_true hmo
                  obtain ⟨hh, hk, b1⟩ := boundOf_inv (P := P) (w := w) ht hhi hk
                  obtain ⟨l, hk, b2⟩ := boundOf_inv (P := P) (w := w) ht hlo hk
                  have hb := bounds3 (b := true) (len := len) b0 b1 b2 htop
                  have hm := b0.2.2.1 (by simp)
                  have hhm := b1.2.2.1 (by simp)
                  refine .value hr (c := .slice (some ⟨t'.blk, ra + cond (Nat.beq l m) 0 (l * ie.size), none⟩) (hh - l) (m - l)) (run_v ?_) ?_ hk
                  · rw [hc, Option.map_some, Option.map_some, run_slice_of hd hsz hb, haddr]
                  · refine mk_slice hφ (by omega) ?_
                    rcases hra with h1 | ⟨h1, h2⟩
                    · exact .inl (by omega)
                    · exact .inr (by omega)
          · cases hk
  · cases hk

theorem castCK_inv {c : CK} {v : Value} {K : Value → Res} {r : Value × AH} (h : castCK c v K = some r) : K v = some r := by
  unfold castCK at h
  cases c with
  | any => exact h
  | ifc =>
    simp only [Option.bind_eq_some_iff] at h
    obtain ⟨x, h1, h2⟩ := h
    unfold asF at h1
    split at h1
    · obtain rfl := Option.some.inj h1; exact h2
    · obtain rfl := Option.some.inj h1; exact h2
    · cases h1
  | fn =>
    simp only [Option.bind_eq_some_iff] at h
    obtain ⟨x, h1, h2⟩ := h
    unfold asG at h1
    split at h1
    · obtain rfl := Option.some.inj h1; exact h2
    · obtain rfl := Option.some.inj h1; exact h2
    · cases h1
  | int k =>
    simp only [Option.bind_eq_some_iff] at h
    obtain ⟨x, h1, h2⟩ := h
    unfold asI at h1
    split at h1
    · rename_i k' y
      cases hk : (k == k') with
      | false => rw [hk, cond_false] at h1; cases h1
      | true =>
        rw [hk, cond_true] at h1
        obtain rfl := Option.some.inj h1
        have := eq_of_beq hk
        subst this
        exact h2
    · cases h1
  | _ =>
    simp only [Option.bind_eq_some_iff] at h
    obtain ⟨x, h1, h2⟩ := h
    simp only [asB, asStr, asP, asS, asM] at h1
    split at h1
    · obtain rfl := Option.some.inj h1; exact h2
    · cases h1

theorem ok_slice {t : TypeId} {x : Operand} {lo hi mx : Option Operand} (hr : HRel φ h w) (ht : TR φ tm nt a.tmps) (hk : evOp P O tm (.slice t x lo hi mx) h K = some r) : OpOK P φ h w a ⟨dst, .slice t x lo hi mx, ty, pos, after, guard⟩ K r := by
  simp only [evOp, Option.bind_eq_some_iff] at hk
  obtain ⟨v, hx, lov, hlo, hiv, hhi, mxv, hmx, ⟨v', h'⟩, h1, h2⟩ := hk
  have h3 := castCK_inv h2
  obtain ⟨φ', ov, h'', c, w', g1, g2, g3, g4⟩ := ok_slice0 (dst := dst) (ty := ty) (pos := pos) (after := after) (guard := guard) (K := fun ov h => match ov with | some v => some (v, h) | none => none) hr ht (opv_rel ht hx) hlo hhi hmx h1
  cases ov with
  | none => cases g4
  | some v'' =>
    simp only [Option.some.injEq, Prod.mk.injEq] at g4
    obtain ⟨rfl, rfl⟩ := g4
    have hh : h'' = h := aslice_heap h1
    exact ⟨φ', some v'', h'', c, w', g1, g2, g3, by rw [hh]; exact h3⟩
end
end Go.Lg
