/- Computations in the passing style that answer at all answers whoever asks; slice expressions leave the memory alone. -/
import Derived.Test.YtciiigaagggefaaGreatEv8
import Derived.Laws.Slices
set_option linter.unusedVariables false
set_option linter.unusedSimpArgs false
namespace Go.Lg
open Go

/-- a computation in the passing style that answers at all answers whoever asks -/
def Nat1 {α : Type} (m : (α → Res) → Res) : Prop := ∀ K r, m K = some r → ∃ x, K x = some r ∧ ∀ K', m K' = K' x
theorem Nat1.pure {α : Type} (x : α) : Nat1 (fun K => K x) := fun _ _ h => ⟨x, h, fun _ => rfl⟩
theorem Nat1.none {α : Type} : Nat1 (fun _ : α → Res => Option.none) := fun _ _ h => by cases h
theorem Nat1.bindO {α β : Type} (o : Option β) (f : β → (α → Res) → Res) (hf : ∀ b, Nat1 (f b)) : Nat1 (fun K => o.bind fun b => f b K) := by
  intro K r h
  cases o with
  | none => cases h
  | some b => exact hf b K r h
theorem Nat1.cond {α : Type} (b : Bool) {m n : (α → Res) → Res} (hm : Nat1 m) (hn : Nat1 n) : Nat1 (fun K => cond b (m K) (n K)) := by
  cases b
  · exact hn
  · exact hm
theorem Nat1.then {α β : Type} {m : (β → Res) → Res} {f : β → (α → Res) → Res} (hm : Nat1 m) (hf : ∀ b, Nat1 (f b)) : Nat1 (fun K => m fun b => f b K) := by
  intro K r h
  obtain ⟨x, h1, h2⟩ := hm _ _ h
  obtain ⟨y, h3, h4⟩ := hf x K r h1
  exact ⟨y, h3, fun K' => (h2 _).trans (h4 K')⟩
theorem Nat1.map {α β : Type} {m : (β → Res) → Res} (hm : Nat1 m) (f : β → α) : Nat1 (fun K => m fun b => K (f b)) := Nat1.then hm fun b => Nat1.pure (f b)

/-- two answers at once -/
abbrev K2 (α : Type) := (α → AH → Res) → Res
def un {α : Type} (m : K2 α) : ((α × AH) → Res) → Res := fun K => m fun a h => K (a, h)
def Nat2 {α : Type} (m : K2 α) : Prop := Nat1 (un m)
theorem Nat2.out {α : Type} {m : K2 α} (hm : Nat2 m) {K : α → AH → Res} {r : Value × AH} (h : m K = some r) : ∃ v h', K v h' = some r ∧ ∀ K', m K' = K' v h' := by
  obtain ⟨⟨v, h'⟩, h1, h2⟩ := hm (fun p => K p.1 p.2) r h
  exact ⟨v, h', h1, fun K' => h2 fun p => K' p.1 p.2⟩


theorem nat_boundOf (x : Option Value) (d top : Nat) : Nat1 (boundOf x d top) := by
  show Nat1 (fun K => boundOf x d top K)
  unfold boundOf
  split
  · exact Nat1.pure _
  · exact Nat1.cond _ (Nat1.pure _) Nat1.none
  · exact Nat1.none

theorem nat_slice (P : Program) (t : TypeId) (x : Value) (lo hi mx : Option Value) (h : AH) : Nat2 (evSlice P t x lo hi mx h) := by
  show Nat1 (fun K => evSlice P t x lo hi mx h fun a h => K (a, h))
  unfold evSlice
  split
  · split
    · exact Nat1.none
    · exact Nat1.then (nat_boundOf hi _ _) (fun _ => Nat1.then (nat_boundOf lo _ _) fun _ => Nat1.pure _)
  · refine Nat1.bindO _ _ (fun sz => ?_)
    split
    · refine Nat1.cond _ ?_ Nat1.none
      split
      · exact Nat1.then (nat_boundOf hi _ _) (fun _ => Nat1.then (nat_boundOf lo _ _) fun _ => Nat1.pure _)
      · exact Nat1.cond _ (Nat1.then (nat_boundOf _ _ _) fun _ => Nat1.then (nat_boundOf hi _ _) (fun _ => Nat1.then (nat_boundOf lo _ _) fun _ => Nat1.pure _)) Nat1.none
    · refine Nat1.cond _ ?_ (Nat1.cond _ Nat1.none ?_)
      · split
        · exact Nat1.then (nat_boundOf hi _ _) (fun _ => Nat1.then (nat_boundOf lo _ _) fun _ => Nat1.pure _)
        · exact Nat1.cond _ (Nat1.then (nat_boundOf _ _ _) fun _ => Nat1.then (nat_boundOf hi _ _) (fun _ => Nat1.then (nat_boundOf lo _ _) fun _ => Nat1.pure _)) Nat1.none
      · split
        · refine Nat1.cond _ ?_ Nat1.none
          split
          · exact Nat1.then (nat_boundOf hi _ _) (fun _ => Nat1.then (nat_boundOf lo _ _) fun _ => Nat1.pure _)
          · exact Nat1.cond _ (Nat1.then (nat_boundOf _ _ _) fun _ => Nat1.cond _ (Nat1.then (nat_boundOf hi _ _) (fun _ => Nat1.then (nat_boundOf lo _ _) fun _ => Nat1.pure _)) Nat1.none) Nat1.none
        · exact Nat1.none
  · exact Nat1.none

theorem heap_of_shift {α : Type} {v : α} {h h' : AH} (hh : ∀ K : α → AH → Res, K v h' = K v h) : h' = h := by
  have := hh fun _ x => some (.nilFunc, x)
  simp only [Option.some.injEq, Prod.mk.injEq, true_and] at this
  exact this

theorem slice_shift (P : Program) (t : TypeId) (x : Value) (lo hi mx : Option Value) (h : AH) (K : Value → AH → Res) : evSlice P t x lo hi mx h K = evSlice P t x lo hi mx h (fun v _ => K v h) := rfl

theorem aslice_heap {P : Program} {t : TypeId} {x : Value} {lo hi mx : Option Value} {h : AH} {r : Value × AH} (hk : aslice P t x lo hi mx h = some r) : r.2 = h := by
  obtain ⟨v, h', h1, h2⟩ := (nat_slice P t x lo hi mx h).out hk
  obtain rfl := Option.some.inj h1
  exact heap_of_shift (v := v) fun K => by rw [← h2 K, slice_shift, h2]
end Go.Lg

namespace Go.Lg
open Go

theorem vr_slice {φ : Emb} {a : Addr} {n cap : Nat} {c : Value} (h : VR φ (.slice (some a) n cap) c) :
    (∃ t a', φ a.block = some t ∧ t.ro = true ∧ a.spot = none ∧ n = 0 ∧ cap = 0 ∧ c = .slice (some a') 0 0) ∨ ∃ t ra c', φ a.block = some t ∧ a.spot = none ∧ c = .slice (some ⟨t.blk, ra, none⟩) n c' ∧
      ((cap < opn ∧ c' = cap ∧ (ra = t.sh + a.off ∨ (n = 0 ∧ cap = 0))) ∨
       (cap = opn ∧ n ≤ c' ∧ t.sh + a.off + c' * t.esz = t.tot ∧ (ra = t.sh + a.off ∨ (n = 0 ∧ c' = 0)))) := by
  cases h with
  | sliceV h1 h2 => exact .inl ⟨_, _, h1, h2, rfl, rfl, rfl, rfl⟩
  | slice h1 h2 => exact .inr ⟨_, _, _, h1, rfl, rfl, .inl ⟨h2, rfl, .inl rfl⟩⟩
  | sliceO h1 h2 h3 => exact .inr ⟨_, _, _, h1, rfl, rfl, .inr ⟨rfl, h3, h2, .inl rfl⟩⟩
  | sliceE h1 h2 => exact .inr ⟨_, _, _, h1, rfl, rfl, .inr ⟨rfl, Nat.le_refl _, by simpa using h2, .inr ⟨rfl, rfl⟩⟩⟩
  | sliceZ h1 => exact .inr ⟨_, _, _, h1, rfl, rfl, .inl ⟨by decide, rfl, .inr ⟨rfl, rfl⟩⟩⟩
theorem vr_sliceN {φ : Emb} {n cap : Nat} {c : Value} (h : VR φ (.slice none n cap) c) : n = 0 ∧ cap = 0 ∧ c = .slice none 0 0 := by
  cases h; exact ⟨rfl, rfl, rfl⟩
theorem mk_slice {φ : Emb} {b o n c ra : Nat} {t : Tgt} (h : φ b = some t) (hc : c < opn) (hr : ra = t.sh + o ∨ (n = 0 ∧ c = 0)) : VR φ (.slice (some ⟨b, o, none⟩) n c) (.slice (some ⟨t.blk, ra, none⟩) n c) := by
  rcases hr with rfl | ⟨rfl, rfl⟩
  · exact .slice h hc
  · exact .sliceZ h
theorem mk_sliceO {φ : Emb} {b o n c ra : Nat} {t : Tgt} (h : φ b = some t) (hn : n ≤ c) (ht : t.sh + o + c * t.esz = t.tot) (hr : ra = t.sh + o ∨ (n = 0 ∧ c = 0)) : VR φ (.slice (some ⟨b, o, none⟩) n opn) (.slice (some ⟨t.blk, ra, none⟩) n c) := by
  rcases hr with rfl | ⟨rfl, rfl⟩
  · exact .sliceO h ht hn
  · exact .sliceE h (by simpa using ht)

section
variable {P : Program} {φ : Emb} {h : AH} {w : World} {a : Act} {tm : T Value} {nt : Nat} {r : Value × AH}

/-- a bound of a slice expression -/
def BR (P : Program) (a : Act) (w : World) (x : Option Operand) (dflt n : Nat) (top : Nat) : Prop :=
  n ≤ max dflt top ∧ (x = none → n = dflt) ∧ (x ≠ none → n ≤ top) ∧ ∀ (top' : Nat) (code : BoundsCode), top ≤ top' → ∀ v, x.map a.eval = some v → (Instr.sliceBound v top' code).run P w = .ok n w
theorem boundOf_inv (ht : TR φ tm nt a.tmps) {x : Option Operand} {xv : Option Value} (hxv : optv tm x = some xv) {dflt top : Nat} {K : Nat → Res} (hk : boundOf xv dflt top K = some r) : ∃ n, K n = some r ∧ BR P a w x dflt n top := by
  cases x with
  | none =>
    simp only [optv, Option.some.injEq] at hxv
    subst hxv
    exact ⟨dflt, hk, by omega, fun _ => rfl, fun h => (h rfl).elim, fun _ _ _ v hv => by simp at hv⟩
  | some x =>
    simp only [optv, Option.bind_eq_some_iff, Option.some.injEq] at hxv
    obtain ⟨u, hx, rfl⟩ := hxv
    unfold boundOf at hk
    split at hk
    · rename_i e; cases e
    · rename_i k i e
      obtain rfl := Option.some.inj e
      cases hb : inBe i top with
      | false => rw [hb, cond_false] at hk; cases hk
      | true =>
        rw [hb, cond_true] at hk
        obtain ⟨h1, h2⟩ := inBe_iff.1 hb
        refine ⟨i.toNat, hk, by omega, fun h => (by cases h), fun _ => (by omega), fun top' code htop v hv => ?_⟩
        simp at hv
        subst hv
        rw [vr_int (opv_rel ht hx)]
        exact run_sliceBound w k i top' code h1 (by omega)
    · cases hk

theorem optv_none {x : Option Operand} (h : optv tm x = some none) : x = none := by
  cases x with
  | none => rfl
  | some x =>
    simp only [optv, Option.bind_eq_some_iff] at h
    obtain ⟨u, _, h2⟩ := h
    cases h2
theorem optv_some {x : Option Operand} {v : Value} (h : optv tm x = some (some v)) : ∃ o, x = some o := by
  cases x with
  | none => simp [optv] at h
  | some x => exact ⟨x, rfl⟩

/-- the three bounds of a slice expression -/
theorem bounds2 {lo hi : Option Operand} {len cap l hh top : Nat} {b : Bool} (h1 : BR P a w hi len hh top) (h2 : BR P a w lo 0 l hh) (htop : top ≤ cap) :
    (Instr.sliceBounds b len cap (lo.map a.eval) (hi.map a.eval) none).run P w = .ok (l, hh, cap) w := by
  obtain ⟨g1, g2, g3, g4⟩ := h1
  obtain ⟨k1, k2, k3, k4⟩ := h2
  cases hi with
  | none =>
    have := g2 rfl; subst this
    cases lo with
    | none => have := k2 rfl; subst this; simp [Instr.sliceBounds]
    | some x =>
      have e := k4 hh (if (none : Option Value).isSome then .slice3C else .sliceB) (Nat.le_refl _) _ rfl
      simp only [Instr.sliceBounds, Option.map_none, Option.map_some, Sem.run_bind, Sem.run_pure, Result.andThen_ok, e]
  | some y =>
    have eh := g4 cap (if b then .sliceAcap else .sliceAlen) htop _ rfl
    cases lo with
    | none => have := k2 rfl; subst this; simp only [Instr.sliceBounds, Option.map_none, Option.map_some, Sem.run_bind, Sem.run_pure, Result.andThen_ok, eh]
    | some x =>
      have e := k4 hh (if (none : Option Value).isSome then .slice3C else .sliceB) (Nat.le_refl _) _ rfl
      simp only [Instr.sliceBounds, Option.map_some, Sem.run_bind, Sem.run_pure, Result.andThen_ok, eh, e]
theorem bounds3 {lo : Option Operand} {hi mx : Operand} {len cap l hh m top d e : Nat} {b : Bool} (h0 : BR P a w (some mx) d m top) (h1 : BR P a w (some hi) e hh m) (h2 : BR P a w lo 0 l hh) (htop : top ≤ cap) :
    (Instr.sliceBounds b len cap (lo.map a.eval) (some (a.eval hi)) (some (a.eval mx))).run P w = .ok (l, hh, m) w := by
  obtain ⟨f1, f2, f3, f4⟩ := h0
  obtain ⟨g1, g2, g3, g4⟩ := h1
  obtain ⟨k1, k2, k3, k4⟩ := h2
  have em := f4 cap (if b then .slice3Acap else .slice3Alen) htop _ rfl
  have eh := g4 m .slice3B (Nat.le_refl _) _ rfl
  cases lo with
  | none => have := k2 rfl; subst this; simp only [Instr.sliceBounds, Option.map_none, Sem.run_bind, Sem.run_pure, Result.andThen_ok, em, eh]
  | some x =>
    have e := k4 hh (if (some (a.eval mx) : Option Value).isSome then .slice3C else .sliceB) (Nat.le_refl _) _ rfl
    simp only [Instr.sliceBounds, Option.map_some, Sem.run_bind, Sem.run_pure, Result.andThen_ok, em, eh, e]

theorem run_slice_of {t e : TypeId} {ad : Option Addr} {len cap l hh m sz : Nat} {lo hi mx : Option Value} (hd : P.underlying t = some (.slice e)) (hsz : (sizeOf e).run P w = .ok sz w)
    (hb : (Instr.sliceBounds true len cap lo hi mx).run P w = .ok (l, hh, m) w) :
    (Instr.sliceAt t (.slice ad len cap) lo hi mx).run P w = .ok (.slice (if m = l then ad else ad.map (·.add (l * sz))) (hh - l) (m - l)) w := by
  simp only [Instr.sliceAt, Sem.run_bind, run_underlying' hd, Result.andThen_ok, Instr.slice, hb, hsz, Sem.run_pure]

variable {K : Option Value → AH → Res} {O : Orc} {dst : Option Tmp} {ty : TypeId} {pos : String} {after : Array Edge} {guard : Option (Nat × Bool)}

theorem ok_slice0 {t : TypeId} {x : Operand} {v : Value} {lo hi mx : Option Operand} {lov hiv mxv : Option Value} (hr : HRel φ h w) (ht : TR φ tm nt a.tmps) (hv : VR φ v (a.eval x)) (hlo : optv tm lo = some lov) (hhi : optv tm hi = some hiv) (hmx : optv tm mx = some mxv)
    (hk : evSlice P t v lov hiv mxv h (fun v h => K (some v) h) = some r) : OpOK P φ h w a ⟨dst, .slice t x lo hi mx, ty, pos, after, guard⟩ K r := by
  unfold evSlice at hk
  split at hk
  · -- strings
    rename_i s hd
    split at hk
    · cases hk
    · obtain rfl := optv_none hmx
      obtain ⟨hh, hk, b1⟩ := boundOf_inv (P := P) (w := w) ht hhi hk
      obtain ⟨l, hk, b2⟩ := boundOf_inv (P := P) (w := w) ht hlo hk
      have hc := vr_string hv
      refine .value hr (c := .string ⟨((s.data.toList.drop l).take (hh - l)).toArray⟩) (run_v ?_) (.string _) hk
      have hb := bounds2 (b := false) b1 b2 (Nat.le_refl _)
      have hsz : s.data.toList.length = s.size := by simp
      rw [hsz] at hb
      have e : s.extract l hh = ⟨((s.data.toList.drop l).take (hh - l)).toArray⟩ := by
        apply ByteArray.ext
        apply Array.ext'
        rw [Lib.extract_data]
      have hns : ∀ (q : Sem Value), (match (TypeDesc.string : TypeDesc) with | .array _ _ => q | _ => Instr.slice t (.string s) (lo.map a.eval) (hi.map a.eval) none) = Instr.slice t (.string s) (lo.map a.eval) (hi.map a.eval) none := fun _ => rfl
      simp only [Instr.sliceAt, Sem.run_bind, run_underlying' hd, Result.andThen_ok, hc, Option.map_none, Instr.slice, Option.isSome_none, Bool.false_eq_true, if_false, hb, Sem.run_pure, e]
  · rename_i e ad len cap hd
    simp only [Option.bind_eq_some_iff] at hk
    obtain ⟨sz, h1, hk⟩ := hk
    obtain ⟨ie, hie, rfl⟩ := sizeT_inv h1
    have hsz := run_sizeOf' hie w
    split at hk
    · -- nil
      obtain ⟨rfl, rfl, hc⟩ := vr_sliceN hv
      simp only [Nat.beq_refl, Bool.and_self, cond_true] at hk
      split at hk
      · obtain rfl := optv_none hmx
        obtain ⟨hh, hk, b1⟩ := boundOf_inv (P := P) (w := w) ht hhi hk
        obtain ⟨l, hk, b2⟩ := boundOf_inv (P := P) (w := w) ht hlo hk
        refine .value hr (c := .slice none 0 0) (run_v ?_) .nilS hk
        have hb := bounds2 (b := true) b1 b2 (Nat.le_refl _)
        rw [hc, Option.map_none, run_slice_of hd hsz hb]
        have : hh = 0 := by have := b1.1; simpa using this
        subst this
        simp
      · obtain ⟨mxo, rfl⟩ := optv_some hmx
        cases hiv with
        | none => cases hk
        | some hiu =>
          obtain ⟨hio, rfl⟩ := optv_some hhi
          rw [show (some hiu : Option Value).isSome = true from rfl, cond_true] at hk
          obtain ⟨m, hk, b0⟩ := boundOf_inv (P := P) (w := w) ht hmx hk
          obtain ⟨hh, hk, b1⟩ := boundOf_inv (P := P) (w := w) ht hhi hk
          obtain ⟨l, hk, b2⟩ := boundOf_inv (P := P) (w := w) ht hlo hk
          refine .value hr (c := .slice none 0 0) (run_v ?_) .nilS hk
          have hm : m = 0 := by have := b0.1; simpa using this
          subst hm
          have hhh : hh = 0 := by have := b1.1; simpa using this
          subst hhh
          have hb := bounds3 (b := true) (len := 0) b0 b1 b2 (Nat.le_refl _)
          rw [hc, Option.map_some, Option.map_some, run_slice_of hd hsz hb]
          simp
    · rename_i ad
      rcases vr_slice hv with ⟨t', a', hφ, hro, hsp, rfl, rfl, hc⟩ | ⟨t', ra, c', hφ, hsp, hc, hcase⟩
      · have hb1 : Nat.blt 0 opn = true := by decide
        rw [hb1, cond_true] at hk
        have hfin : ∀ (hh l m : Nat), hh = 0 → l = 0 → m = 0 → VR φ (.slice (some ⟨ad.block, ad.off + cond (Nat.beq l m) 0 (l * ie.size), none⟩) (hh - l) (m - l)) (.slice (some a') (hh - l) (m - l)) := by
          rintro _ _ _ rfl rfl rfl
          exact .sliceV hφ hro
        split at hk
        · obtain rfl := optv_none hmx
          obtain ⟨hh, hk, b1⟩ := boundOf_inv (P := P) (w := w) ht hhi hk
          obtain ⟨l, hk, b2⟩ := boundOf_inv (P := P) (w := w) ht hlo hk
          have hb := bounds2 (b := true) b1 b2 (Nat.le_refl _)
          have hh0 : hh = 0 := by have := b1.1; omega
          have hl0 : l = 0 := by have := b2.1; omega
          refine .value hr (c := .slice (some a') (hh - l) (0 - l)) (run_v ?_) (hfin hh l 0 hh0 hl0 rfl) hk
          rw [hc, Option.map_none, run_slice_of hd hsz hb, hl0, if_pos rfl]
        · obtain ⟨mxo, rfl⟩ := optv_some hmx
          cases hiv with
          | none => cases hk
          | some hiu =>
            obtain ⟨hio, rfl⟩ := optv_some hhi
            rw [show (some hiu : Option Value).isSome = true from rfl, cond_true] at hk
            obtain ⟨m, hk, b0⟩ := boundOf_inv (P := P) (w := w) ht hmx hk
            obtain ⟨hh, hk, b1⟩ := boundOf_inv (P := P) (w := w) ht hhi hk
            obtain ⟨l, hk, b2⟩ := boundOf_inv (P := P) (w := w) ht hlo hk
            have hb := bounds3 (b := true) (len := 0) b0 b1 b2 (Nat.le_refl _)
            have hm := b0.2.2.1 (by simp)
            have hhm := b1.2.2.1 (by simp)
            have hm0 : m = 0 := by omega
            have hh0 : hh = 0 := by omega
            have hl0 : l = 0 := by have := b2.1; omega
            refine .value hr (c := .slice (some a') (hh - l) (m - l)) (run_v ?_) (hfin hh l m hh0 hl0 hm0) hk
            rw [hc, Option.map_some, Option.map_some, run_slice_of hd hsz hb, hl0, hm0, if_pos rfl]
      have haddr : ∀ (m l : Nat), (if m = l then some (⟨t'.blk, ra, none⟩ : Addr) else (some (⟨t'.blk, ra, none⟩ : Addr)).map (·.add (l * ie.size))) = some ⟨t'.blk, ra + cond (Nat.beq l m) 0 (l * ie.size), none⟩ := by
        intro m l
        by_cases e : m = l
        · subst e; simp
        · have : Nat.beq l m = false := by
            cases hb : Nat.beq l m with
            | false => rfl
            | true => exact absurd (Nat.eq_of_beq_eq_true hb).symm e
          simp [e, this, add_lit]
      rcases hcase with ⟨hlt, rfl, hra⟩ | ⟨rfl, hle, htot, hra⟩
      · have hb1 : Nat.blt c' opn = true := Nat.ble_eq_true_of_le hlt
        rw [hb1, cond_true] at hk
        split at hk
        · obtain rfl := optv_none hmx
          obtain ⟨hh, hk, b1⟩ := boundOf_inv (P := P) (w := w) ht hhi hk
          obtain ⟨l, hk, b2⟩ := boundOf_inv (P := P) (w := w) ht hlo hk
          have hb := bounds2 (b := true) b1 b2 (Nat.le_refl _)
          refine .value hr (c := .slice (some ⟨t'.blk, ra + cond (Nat.beq l c') 0 (l * ie.size), none⟩) (hh - l) (c' - l)) (run_v ?_) ?_ hk
          · rw [hc, Option.map_none, run_slice_of hd hsz hb, haddr]
          · refine mk_slice hφ (by omega) ?_
            rcases hra with h1 | ⟨h1, h2⟩
            · exact .inl (by omega)
            · exact .inr (by have := b1.1; omega)
        · obtain ⟨mxo, rfl⟩ := optv_some hmx
          cases hiv with
          | none => cases hk
          | some hiu =>
            obtain ⟨hio, rfl⟩ := optv_some hhi
            rw [show (some hiu : Option Value).isSome = true from rfl, cond_true] at hk
            obtain ⟨m, hk, b0⟩ := boundOf_inv (P := P) (w := w) ht hmx hk
            obtain ⟨hh, hk, b1⟩ := boundOf_inv (P := P) (w := w) ht hhi hk
            obtain ⟨l, hk, b2⟩ := boundOf_inv (P := P) (w := w) ht hlo hk
            have hb := bounds3 (b := true) (len := len) b0 b1 b2 (Nat.le_refl _)
            have hm := b0.2.2.1 (by simp)
            have hhm := b1.2.2.1 (by simp)
            refine .value hr (c := .slice (some ⟨t'.blk, ra + cond (Nat.beq l m) 0 (l * ie.size), none⟩) (hh - l) (m - l)) (run_v ?_) ?_ hk
            · rw [hc, Option.map_some, Option.map_some, run_slice_of hd hsz hb, haddr]
            · refine mk_slice hφ (by omega) ?_
              rcases hra with h1 | ⟨h1, h2⟩
              · exact .inl (by omega)
              · exact .inr (by omega)
      · have hb1 : Nat.blt opn opn = false := by decide
        rw [hb1, cond_false] at hk
        cases hs0 : Nat.beq ie.size 0 with
        | true => rw [hs0, cond_true] at hk; cases hk
        | false =>
          rw [hs0, cond_false] at hk
          have hpos : 0 < ie.size := by
            rcases Nat.eq_zero_or_pos ie.size with h0 | h0
            · rw [h0] at hs0; cases hs0
            · exact h0
          split at hk
          · rename_i c op ro esz hbk
            cases hes : Nat.beq esz ie.size with
            | false => rw [hes, cond_false] at hk; cases hk
            | true =>
              rw [hes, cond_true] at hk
              have hes' := Nat.eq_of_beq_eq_true hes
              obtain ⟨t2, g1, g2, g3, g4, _, _⟩ := hr.cells ad.block c op ro esz hbk
              rw [hφ] at g1
              obtain rfl := Option.some.inj g1
              have hesz : t'.esz = ie.size := g3.trans hes'
              have htop : (c.length - ad.off) / ie.size ≤ c' := by
                rw [Nat.div_le_iff_le_mul_add_pred hpos]
                rw [hesz] at htot
                have : ie.size * c' = c' * ie.size := Nat.mul_comm _ _
                omega
              split at hk
              · obtain rfl := optv_none hmx
                obtain ⟨hh, hk, b1⟩ := boundOf_inv (P := P) (w := w) ht hhi hk
                obtain ⟨l, hk, b2⟩ := boundOf_inv (P := P) (w := w) ht hlo hk
                have hb := bounds2 (b := true) b1 b2 htop
                have hhc : hh ≤ c' := by have := b1.1; omega
                have hlh : l ≤ hh := by have := b2.1; omega
                refine .value hr (c := .slice (some ⟨t'.blk, ra + cond (Nat.beq l c') 0 (l * ie.size), none⟩) (hh - l) (c' - l)) (run_v ?_) ?_ hk
                · rw [hc, Option.map_none, run_slice_of hd hsz hb, haddr]
                · refine mk_sliceO hφ (by omega) ?_ ?_
                  · rw [hesz] at htot ⊢
                    have : c' * ie.size = l * ie.size + (c' - l) * ie.size := by rw [← Nat.add_mul, Nat.add_sub_cancel' (by omega)]
                    omega
                  · cases hlc : Nat.beq l c' with
                    | true => have := Nat.eq_of_beq_eq_true hlc; exact .inr (by omega)
                    | false =>
                      rw [cond_false]
                      rcases hra with h1 | ⟨h1, h2⟩
                      · exact .inl (by omega)
                      · exact .inr (by omega)
              · obtain ⟨mxo, rfl⟩ := optv_some hmx
                cases hiv with
                | none => cases hk
                | some hiu =>
                  obtain ⟨hio, rfl⟩ := optv_some hhi
                  rw [show (some hiu : Option Value).isSome = true from rfl, cond_true] at hk
                  obtain ⟨m, hk, b0⟩ := boundOf_inv (P := P) (w := w) ht hmx hk
                  cases hmo : Nat.blt m opn with
                  | false => rw [hmo, cond_false] at hk; cases hk
                  | true =>
                  rw [hmo, cond_true] at hk
                  have hmlt : m < opn := Nat.le_of_ble_eq_true hmo
                  obtain ⟨hh, hk, b1⟩ := boundOf_inv (P := P) (w := w) ht hhi hk
                  obtain ⟨l, hk, b2⟩ := boundOf_inv (P := P) (w := w) ht hlo hk
                  have hb := bounds3 (b := true) (len := len) b0 b1 b2 htop
                  have hm := b0.2.2.1 (by simp)
                  have hhm := b1.2.2.1 (by simp)
                  refine .value hr (c := .slice (some ⟨t'.blk, ra + cond (Nat.beq l m) 0 (l * ie.size), none⟩) (hh - l) (m - l)) (run_v ?_) ?_ hk
                  · rw [hc, Option.map_some, Option.map_some, run_slice_of hd hsz hb, haddr]
                  · refine mk_slice hφ (by omega) ?_
                    rcases hra with h1 | ⟨h1, h2⟩
                    · exact .inl (by omega)
                    · exact .inr (by omega)
          · cases hk
  · cases hk

theorem ok_slice {t : TypeId} {x : Operand} {lo hi mx : Option Operand} (hr : HRel φ h w) (ht : TR φ tm nt a.tmps) (hk : evOp P O tm (.slice t x lo hi mx) h K = some r) : OpOK P φ h w a ⟨dst, .slice t x lo hi mx, ty, pos, after, guard⟩ K r := by
  simp only [evOp, Option.bind_eq_some_iff] at hk
  obtain ⟨v, hx, lov, hlo, hiv, hhi, mxv, hmx, ⟨v', h'⟩, h1, h2⟩ := hk
  have h3 := castCK_inv h2
  obtain ⟨φ', ov, h'', c, w', g1, g2, g3, g4⟩ := ok_slice0 (dst := dst) (ty := ty) (pos := pos) (after := after) (guard := guard) (K := fun ov h => match ov with | some v => some (v, h) | none => none) hr ht (opv_rel ht hx) hlo hhi hmx h1
  cases ov with
  | none => cases g4
  | some v'' =>
    simp only [Option.some.injEq, Prod.mk.injEq] at g4
    obtain ⟨rfl, rfl⟩ := g4
    have hh : h'' = h := aslice_heap h1
    exact ⟨φ', some v'', h'', c, w', g1, g2, g3, by rw [hh]; exact h3⟩
end
end Go.Lg

namespace Go.Lg
open Go

theorem ldRow_inv {h : AH} {b o n : Nat} {l : List Value} (hl : ldRow h b o n = some l) : ∃ c op ro esz, h.get b = some (.cells c op ro esz) ∧ o + n ≤ c.length ∧ l = (c.drop o).take n := by
  unfold ldRow at hl
  split at hl
  · rename_i c op ro esz hb
    cases hc : Nat.ble (o + n) c.length with
    | false => rw [hc, cond_false] at hl; cases hl
    | true =>
      rw [hc, cond_true] at hl
      exact ⟨c, op, ro, esz, hb, Nat.le_of_ble_eq_true hc, (Option.some.inj hl).symm⟩
  · cases hl

/-- a row that is read, in the world -/
theorem ldRow_rel {φ : Emb} {h : AH} {w : World} (hr : HRel φ h w) {b o n : Nat} {t : Tgt} (ht : φ b = some t) {l : List Value} (hl : ldRow h b o n = some l) :
    ∃ cs, VRs φ l cs ∧ l.length = n ∧ (∀ (i : Nat) (c : Value), cs[i]? = some c → w.cell? ⟨t.blk, t.sh + o + i, none⟩ = some c) ∧ l.all cellOk = true := by
  obtain ⟨c, op, ro, esz, hb, hle, rfl⟩ := ldRow_inv hl
  have hget : ∀ (i : Nat) (v : Value), ((c.drop o).take n)[i]? = some v → h.ld b (o + i) = some v := by
    intro i v hv
    simp only [List.getElem?_take, List.getElem?_drop] at hv
    split at hv
    · simp only [AH.ld, hb]; exact hv
    · cases hv
  obtain ⟨cs, h1, h2, _⟩ := row_rel hr ht hget
  refine ⟨cs, h1, by simp; omega, h2, ?_⟩
  obtain ⟨t', _, _, _, _, _, hcells⟩ := hr.cells b c op ro esz hb
  rw [List.all_eq_true]
  intro v hv
  obtain ⟨i, hi⟩ := List.mem_iff_getElem?.1 hv
  simp only [List.getElem?_take, List.getElem?_drop] at hi
  split at hi
  · exact (hcells (o + i) v hi).1
  · cases hi

theorem run_firstCells_at {P : Program} {w : World} {size n len cap : Nat} {b : Addr} {cs : List Value} (hl : cs.length = n * size) (hb : b.spot = none)
    (h : ∀ (i : Nat) (c : Value), cs[i]? = some c → w.cell? ⟨b.block, b.off + i, none⟩ = some c) : (Builtin.firstCells size n (.slice (some b) len cap)).run P w = .ok cs.toArray w := by
  refine run_firstCells_some (P := P) w size n b len cap cs hl fun j v hj => ?_
  obtain ⟨bb, bo, bs⟩ := b
  simp only at hb
  subst hb
  rw [add_lit]
  exact h j v hj

/-- what is appended -/
theorem newCells_rel {P : Program} {φ : Emb} {h : AH} {w : World} (hr : HRel φ h w) {size n : Nat} {x x' : Value} {l : List Value} (hx : VR φ x x') (hl : newCells h size x = some (n, l)) (hlen : l.length = n * size) :
    ∃ cs, VRs φ l cs ∧ l.all cellOk = true ∧ (∀ w2 : World, (∀ a, w2.cell? a = w.cell? a) → (Builtin.firstCells size n x').run P w2 = .ok cs.toArray w2) ∧ ∀ w2, (Builtin.lenOf x').run P w2 = .ok n w2 := by
  unfold newCells at hl
  split at hl
  · rename_i a n' cap
    simp only [Option.bind_eq_some_iff] at hl
    obtain ⟨l', h1, h2⟩ := hl
    simp only [Option.some.injEq, Prod.mk.injEq] at h2
    obtain ⟨rfl, rfl⟩ := h2
    rcases vr_slice hx with ⟨t, a', hφ, hro, hsp, rfl, rfl, rfl⟩ | ⟨t, ra, c', hφ, hsp, rfl, hcase⟩
    · obtain ⟨cs, g1, g2, g3, g4⟩ := ldRow_rel hr hφ h1
      have hc0 : cs = [] := by apply List.eq_nil_of_length_eq_zero; rw [← g1.length, g2]; simp
      subst hc0
      exact ⟨[], g1, g4, fun w2 hw2 => run_firstCells_some (P := P) w2 size 0 a' 0 0 [] (by simp) (fun j v hj => by simp at hj), fun w2 => by simp [Builtin.lenOf]⟩
    obtain ⟨cs, g1, g2, g3, g4⟩ := ldRow_rel hr hφ h1
    refine ⟨cs, g1, g4, fun w2 hw2 => ?_, fun w2 => by simp [Builtin.lenOf]⟩
    refine run_firstCells_at (by rw [← g1.length]; exact g2) rfl fun i c hc => ?_
    have hra : ra = t.sh + a.off := by
      rcases hcase with ⟨_, _, h | ⟨h, _⟩⟩ | ⟨_, _, _, h | ⟨h, _⟩⟩
      · exact h
      · subst h
        have : cs = [] := by apply List.eq_nil_of_length_eq_zero; rw [← g1.length, g2]; simp
        subst this; simp at hc
      · exact h
      · subst h
        have : cs = [] := by apply List.eq_nil_of_length_eq_zero; rw [← g1.length, g2]; simp
        subst this; simp at hc
    subst hra
    rw [hw2]
    exact g3 i c hc
  · rename_i n' cap
    cases hb : Nat.beq n' 0 with
    | false => rw [hb, cond_false] at hl; cases hl
    | true =>
      rw [hb, cond_true] at hl
      simp only [Option.some.injEq, Prod.mk.injEq] at hl
      obtain ⟨rfl, rfl⟩ := hl
      obtain ⟨rfl, rfl, rfl⟩ := vr_sliceN hx
      exact ⟨[], .nil, rfl, fun w2 _ => by simp [Builtin.firstCells], fun w2 => by simp [Builtin.lenOf]⟩
  · rename_i s
    simp only [Option.some.injEq, Prod.mk.injEq] at hl
    obtain ⟨rfl, rfl⟩ := hl
    obtain rfl := vr_string hx
    refine ⟨s.data.toList.map fun b => .int .u8 b.toNat, ?_, ?_, fun w2 _ => ?_, fun w2 => by simp [Builtin.lenOf]⟩
    · exact flats_VRs (by rw [List.all_eq_true]; intro v hv; obtain ⟨b, _, rfl⟩ := List.mem_map.1 hv; rfl)
    · rw [List.all_eq_true]; intro v hv; obtain ⟨b, _, rfl⟩ := List.mem_map.1 hv; rfl
    · have e : s.extract 0 s.data.toList.length = s := by
        apply ByteArray.ext
        apply Array.ext'
        rw [Lib.extract_data]
        simp [List.take_of_length_le]
      simp only [Builtin.firstCells, e, Sem.run_pure]
      congr 1
      apply Array.ext'
      simp
  · cases hl

section real
variable {P : Program} {w : World} {t tx ty e : TypeId} {dx : TypeDesc} {i : TypeInfo} {z : Value} {base : Option Addr} {sLen sCap n : Nat} {x : Value} {cs : List Value}

/-- the model's append where there is room -/
theorem run_append_in (hd : P.underlying t = some (.slice e)) (hdx : P.underlying tx = some dx) (hni : ∀ k, dx ≠ .int k) (hi : P.info? e = some i)
    (hlen : (Builtin.lenOf x).run P w = .ok n w) (hnew : (Builtin.firstCells i.size n x).run P w = .ok cs.toArray w) (hroom : sLen + n ≤ sCap) {w' : World}
    (hst : ∀ a, base = some a → (storeCells (a.add (sLen * i.size)) cs).run P w = .ok () w') (hnil : base = none → w' = w) :
    (Builtin.append_ #[t, tx] ty #[.slice base sLen sCap, x]).run P w = .ok (.slice base (sLen + n) sCap) w' := by
  cases base with
  | none =>
    obtain rfl := hnil rfl
    simp [Builtin.append_, run_underlying' hd, run_underlying' hdx, run_sizeOf' hi]
    simp [hlen, hnew, hroom]
  | some a =>
    have := hst a rfl
    simp [Builtin.append_, run_underlying' hd, run_underlying' hdx, run_sizeOf' hi]
    simp [hlen, hnew, hroom, this]

/-- the model's append where there is none -/
theorem run_append_new {olds : List Value} (hd : P.underlying t = some (.slice e)) (hdx : P.underlying tx = some dx) (hni : ∀ k, dx ≠ .int k) (hi : P.info? e = some i) (hz : i.zero = some z)
    (hlen : (Builtin.lenOf x).run P w = .ok n w) (hnew : (Builtin.firstCells i.size n x).run P w.drew = .ok cs.toArray w.drew) (hold : (Builtin.firstCells i.size sLen (.slice base sLen sCap)).run P w.drew = .ok olds.toArray w.drew)
    (hroom : sCap < sLen + n) (hbytes : (sLen + n) * i.bytes ≤ 1099511627776) (hsm : sLen + n ≤ 1099511627776) :
    (Builtin.append_ #[t, tx] ty #[.slice base sLen sCap, x]).run P w =
      .ok (.slice (some ⟨w.heap.size, 0, none⟩) (sLen + n) (grownCap w (sLen + n) sCap e))
        (w.drew.alloc (.cells (olds ++ cs ++ (Builtin.zeroCells z.cells (grownCap w (sLen + n) sCap e - (sLen + n))).toList).toArray e)) := by
  have hn : ¬ (sLen + n ≤ sCap) := by omega
  have hfit := growslice_fits (need := sLen + n) (old := sCap) (bytes := i.bytes) hroom (by omega)
  have h63' : ¬ (9223372036854775807 < ((sLen : Int) + (n : Int))) := by omega
  have h48' : ¬ (281474976710656 < Builtin.nextslicecap (sLen + n) sCap * i.bytes) := by omega
  simp [Builtin.append_, run_underlying' hd, run_underlying' hdx, run_sizeOf' hi]
  simp [hlen, hn, h63', h48', run_typeInfo' hi, Question.forced, hnew, hold, zeroValue, hz, newRow, grownCap]
  congr 2
  apply Array.ext'
  simp
end real
end Go.Lg

namespace Go.Lg
open Go

/-- a block's cells come under a new number, in the same row of the world -/
theorem move_sound {φ : Emb} {h : AH} {w w' : World} (hr : HRel φ h w) {b o m : Nat} {t : Tgt} (ht : φ b = some t) {c news : List Value} {cs : List Value} {esz : Nat} (hb : h.get b = some (.cells c true false esz))
    (hv : VRs φ news cs) (hok : news.all cellOk = true) (hom : o + m ≤ c.length) {rc : Array Value} {el : TypeId} (hg : w.heap[t.blk]? = some (.cells rc el (0, 0))) (htot : t.sh + o + m + news.length ≤ t.tot) (hrc : t.tot ≤ rc.size)
    (hg' : w'.heap[t.blk]? = some (.cells (AH.setL rc.toList (t.sh + o + m) cs).toArray el (0, 0))) (hother : ∀ k, k ≠ t.blk → w'.heap[k]? = w.heap[k]?)
    (hos : w'.os = w.os) (htape : w'.tape = w.tape) (hout : w'.output = w.output) (hsize : w'.heap.size = w.heap.size) :
    Good φ w ((h.set b none).push (.cells ((c.drop o).take m ++ news) true false esz)) w' (grow φ h.n ⟨t.blk, t.sh + o, t.tot, esz, false⟩) := by
  have hsub := grow_sub hr ⟨t.blk, t.sh + o, t.tot, esz, false⟩
  obtain ⟨t0, h1, hro, hesz, htot0, _, hcells⟩ := hr.cells b c true false esz hb
  rw [ht] at h1
  obtain rfl := Option.some.inj h1
  have hlen := hv.length
  have hblt := hr.gets b _ hb
  have hn : ((h.set b none).push (.cells ((c.drop o).take m ++ news) true false esz)).n = h.n + 1 := rfl
  have hget : ∀ d, ((h.set b none).push (.cells ((c.drop o).take m ++ news) true false esz)).get d = if d = h.n then some (.cells ((c.drop o).take m ++ news) true false esz) else if d = b then none else h.get d := by
    intro d
    rw [AH.get_push, AH.get_set]; rfl
  have hcother : ∀ a : Addr, a.block ≠ t.blk → w'.cell? a = w.cell? a := fun a ha => by simp [World.cell?, hother a.block ha]
  refine ⟨⟨hsub, fun d u hd => ?_⟩, ⟨hos, htape, hout, by omega, fun B hB hro' => ?_⟩, ?_⟩
  · simp only [grow] at hd
    split at hd
    · obtain rfl := Option.some.inj hd
      exact .inr (.inr ⟨b, t, ht, rfl, hro⟩)
    · exact .inl hd
  · by_cases e : B = t.blk
    · have := hro' b t ht e.symm
      rw [hro] at this; cases this
    · exact hother B e
  · have hne : ∀ d x u, h.get d = some x → d ≠ b → φ d = some u → u.blk ≠ t.blk := fun d x u hx hdb hu he => by
      rcases hr.inj d b x _ u t hx hb hu ht he with h | ⟨_, h⟩
      · exact hdb h
      · rw [hro] at h; cases h
    refine ⟨fun d u hd => ?_, fun d u hd => ?_, ?_, ?_, ?_, ?_, ?_, ?_⟩
    · rw [hn]
      simp only [grow] at hd
      split at hd
      · omega
      · have := hr.lt d u hd; omega
    · rw [hsize]
      simp only [grow] at hd
      split at hd
      · obtain rfl := Option.some.inj hd; exact hr.blkLt b t ht
      · exact hr.blkLt d u hd
    · intro d c' op' ro' esz' hd
      rw [hget] at hd
      split at hd
      · rename_i e
        subst e
        simp only [Option.some.injEq, Blk.cells.injEq] at hd
        obtain ⟨rfl, rfl, rfl, rfl⟩ := hd
        have hl1 : ((c.drop o).take m).length = m := by simp; omega
        refine ⟨_, grow_new φ h.n _, rfl, rfl, by simp only [List.length_append, hl1]; omega, fun _ => ⟨_, el, hg', by simp [setL_length]; exact hrc⟩, fun k v hk => ?_⟩
        rw [cell_of_row w' t.blk _ _ el (0, 0) hg']
        simp only [List.getElem?_toArray]
        rw [setL_get _ _ _ _ (by simp; omega)]
        by_cases hkm : k < m
        · rw [List.getElem?_append_left (by rw [hl1]; exact hkm)] at hk
          simp only [List.getElem?_take, List.getElem?_drop, if_pos hkm] at hk
          obtain ⟨g1, v', g2, g3⟩ := hcells (o + k) v hk
          rw [cell_of_row w t.blk _ _ el (0, 0) hg] at g2
          rw [if_neg (by omega)]
          refine ⟨g1, v', ?_, g3.mono hsub⟩
          rw [← g2, Array.getElem?_toList]; congr 1; omega
        · rw [List.getElem?_append_right (by rw [hl1]; omega), hl1] at hk
          have hk2 : k - m < news.length := by
            rcases Nat.lt_or_ge (k - m) news.length with h' | h'
            · exact h'
            · rw [List.getElem?_eq_none h'] at hk; cases hk
          obtain ⟨v', g2, g3⟩ := hv.get _ _ hk
          rw [if_pos (by omega)]
          refine ⟨by rw [List.all_eq_true] at hok; exact hok _ (List.mem_of_getElem? hk), v', ?_, g3.mono hsub⟩
          rw [← g2]; congr 1; omega
      · split at hd
        · cases hd
        · rename_i hdb
          obtain ⟨t', g1, g2, g3, g4, g5, g6⟩ := hr.cells d c' op' ro' esz' hd
          have := hne d _ t' hd hdb g1
          refine ⟨t', hsub _ _ g1, g2, g3, g4, fun hf => by rw [hother _ this]; exact g5 hf, fun k v hk => ?_⟩
          obtain ⟨e1, v', e2, e3⟩ := g6 k v hk
          exact ⟨e1, v', by rw [hcother _ this]; exact e2, e3.mono hsub⟩
    · intro d es clk hd
      rw [hget] at hd
      split at hd
      · cases hd
      · split at hd
        · cases hd
        · rename_i hdb
          obtain ⟨t', es', g1, g2, g3, g4⟩ := hr.maps d es clk hd
          have := hne d _ t' hd hdb g1
          exact ⟨t', es', hsub _ _ g1, g2, by rw [hother _ this]; exact g3, g4.len, fun i e e' h1 h2 => let ⟨p, q, r, s⟩ := g4.at_ i e e' h1 h2; ⟨p, q, r, s.mono hsub⟩⟩
    · intro d1 d2 x x' t1 t2 hx hx' h1 h2 he
      rw [hget] at hx hx'
      simp only [grow] at h1 h2
      by_cases e1 : d1 = h.n
      · by_cases e2 : d2 = h.n
        · exact .inl (e1.trans e2.symm)
        · rw [if_pos e1] at h1
          obtain rfl := Option.some.inj h1
          rw [if_neg e2] at h2 hx'
          split at hx'
          · cases hx'
          · rename_i hdb
            exact absurd he.symm (hne d2 _ t2 hx' hdb h2)
      · rw [if_neg e1] at h1 hx
        split at hx
        · cases hx
        · rename_i hdb
          by_cases e2 : d2 = h.n
          · rw [if_pos e2] at h2
            obtain rfl := Option.some.inj h2
            exact absurd he (hne d1 _ t1 hx hdb h1)
          · rw [if_neg e2] at h2 hx'
            split at hx'
            · cases hx'
            · exact hr.inj d1 d2 _ _ t1 t2 hx hx' h1 h2 he
    · intro d x hd
      rw [hget] at hd
      rw [hn]
      split at hd
      · omega
      · split at hd
        · cases hd
        · have := hr.gets d x hd; omega
    · intro d c' esz' t' hd ht'
      rw [hget] at hd
      simp only [grow] at ht'
      split at hd
      · simp only [Option.some.injEq, Blk.cells.injEq] at hd
        cases hd.2.1
      · rename_i hdn
        rw [if_neg hdn] at ht'
        split at hd
        · cases hd
        · exact hr.sh0 d _ _ _ hd ht'
    · intro d m since seen last hd
      rw [hget] at hd
      split at hd
      · cases hd
      · split at hd
        · cases hd
        · rename_i hdb
          obtain ⟨t', cm, g1, g2, g3, g4, g5⟩ := hr.iters d m since seen last hd
          have := hne d _ t' hd hdb g1
          exact ⟨t', cm, hsub _ _ g1, g2, g3, by rw [hother _ this]; exact g4, g5.mono hsub⟩

theorem cap_gt {w : World} {need old : Nat} {e : TypeId} : need ≤ grownCap w need old e := grownCap_ge w need old e

section
variable {P : Program} {φ : Emb} {h : AH} {w : World} {t tx ty e : TypeId} {K : Value → AH → Res} {r : Value × AH}

/-- the result of an append that made a new row -/
theorem append_new_good {olds cs old l : List Value} {i : TypeInfo} {z : Value} {sLen n cap : Nat} (hz : z.cells.size = i.size) (h1 : VRs φ old olds) (h2 : VRs φ l cs) (k1 : old.all cellOk = true) (k2 : l.all cellOk = true)
    (l1 : old.length = sLen * i.size) (l2 : l.length = n * i.size) (h' : AH) (hh : HRel φ h' w ∧ h'.n = h.n) (hcap : sLen + n ≤ cap) :
    Good φ w (h'.push (.cells (old ++ l) true false i.size)) (w.drew.alloc (.cells (olds ++ cs ++ (Builtin.zeroCells z.cells (cap - (sLen + n))).toList).toArray e))
        (grow φ h.n ⟨w.heap.size, 0, (olds ++ cs).length + (Builtin.zeroCells z.cells (cap - (sLen + n))).toList.length, i.size, false⟩) ∧
      VR (grow φ h.n ⟨w.heap.size, 0, (olds ++ cs).length + (Builtin.zeroCells z.cells (cap - (sLen + n))).toList.length, i.size, false⟩) (.slice (some ⟨h.n, 0, none⟩) (sLen + n) opn)
        (.slice (some ⟨w.heap.size, 0, none⟩) (sLen + n) cap) := by
  obtain ⟨hr', hn⟩ := hh
  have hg := push_sound (φ := φ) hr'.drew (op := true) (esz := i.size) (el := e) (Builtin.zeroCells z.cells (cap - (sLen + n))).toList (h1.append h2) (by rw [List.all_append, k1, k2]; rfl)
  rw [hn] at hg
  refine ⟨(Good.drew hr').trans hg, ?_⟩
  have := @VR.sliceO (grow φ h.n ⟨w.heap.size, 0, (olds ++ cs).length + (Builtin.zeroCells z.cells (cap - (sLen + n))).toList.length, i.size, false⟩) h.n 0 (sLen + n) cap _ (grow_new φ h.n _) (by
    simp only [List.length_append, zeroCells_toList, repL_length, Array.length_toList, hz, ← h1.length, ← h2.length, l1, l2, Nat.zero_add]
    rw [← Nat.add_mul, ← Nat.add_mul, Nat.add_sub_cancel' hcap]) hcap
  simpa using this

theorem aappend_sound (hr : HRel φ h w) {s x s' x' : Value} (hs : VR φ s s') (hx : VR φ x x') (hk : aappend P t tx s x h K = some r) :
    ∃ φ' v h' c w', (Builtin.append_ #[t, tx] ty #[s', x']).run P w = .ok c w' ∧ Good φ w h' w' φ' ∧ VR φ' v c ∧ K v h' = some r := by
  unfold aappend at hk
  split at hk
  · rename_i e dx hd hdx
    split at hk
    · cases hk
    · rename_i hni
      split at hk
      · rename_i i base sLen sCap hi
        cases hs0 : Nat.beq i.size 0 with
        | true => rw [hs0, cond_true] at hk; cases hk
        | false =>
        rw [hs0, cond_false] at hk
        have hpos : 0 < i.size := by
          rcases Nat.eq_zero_or_pos i.size with h0 | h0
          · rw [h0] at hs0; cases hs0
          · exact h0
        simp only [Option.bind_eq_some_iff] at hk
        obtain ⟨zc, hzc, ⟨n, l⟩, hnl, hk⟩ := hk
        obtain ⟨i', z, hi', hz, _, hzs, _⟩ := zeroCellsOf_inv hzc
        rw [hi] at hi'
        obtain rfl := Option.some.inj hi'
        simp only at hk
        cases hrm : (roomOk (sLen + n) i.bytes && Nat.beq l.length (n * i.size)) with
        | false => rw [hrm, cond_false] at hk; cases hk
        | true =>
        rw [hrm, cond_true] at hk
        simp only [roomOk, Bool.and_eq_true] at hrm
        have hb1 := Nat.le_of_ble_eq_true hrm.1.1
        have hb2 := Nat.le_of_ble_eq_true hrm.1.2
        have hll := Nat.eq_of_beq_eq_true hrm.2
        obtain ⟨cs, hcs, hlok, hrun, hlen⟩ := newCells_rel (P := P) hr hx hnl hll
        have hni' : ∀ k, dx ≠ .int k := fun k e => hni k e
        have hrunw := hrun w (fun _ => rfl)
        have hrund := hrun w.drew (fun _ => rfl)
        have hcsl := hcs.length
        have hopn : opn = 4611686018427387904 := rfl
        split at hk
        · -- nothing there yet
          obtain ⟨rfl, rfl, rfl⟩ := vr_sliceN hs
          simp only [Nat.beq_refl, Bool.and_self, cond_true, Nat.zero_add] at hk hb1 hb2
          cases hn0 : Nat.beq n 0 with
          | true =>
            rw [hn0, cond_true] at hk
            have := Nat.eq_of_beq_eq_true hn0
            subst this
            have hc0 : cs = [] := by apply List.eq_nil_of_length_eq_zero; omega
            subst hc0
            exact ⟨φ, _, h, .slice none 0 0, w, run_append_in (base := none) hd hdx hni' hi (hlen w) hrunw (by omega) (w' := w) (by simp) (fun _ => rfl), .refl hr, .nilS, hk⟩
          | false =>
            rw [hn0, cond_false] at hk
            have hnp : 0 < n := by
              rcases Nat.eq_zero_or_pos n with h0 | h0
              · rw [h0] at hn0; cases hn0
              · exact h0
            have hcap : 0 + n ≤ grownCap w (0 + n) 0 e := cap_gt
            obtain ⟨g1, g2⟩ := append_new_good (φ := φ) (w := w) (e := e) (h := h) (old := []) (olds := []) (sLen := 0) (n := n) (cap := grownCap w (0 + n) 0 e) hzs .nil hcs rfl hlok (by simp) hll h ⟨hr, rfl⟩ hcap
            have hrn := run_append_new (P := P) (w := w) (t := t) (tx := tx) (ty := ty) (base := none) (sLen := 0) (sCap := 0) (olds := []) hd hdx hni' hi hz (hlen w) hrund (by simp [Builtin.firstCells]) (by omega) (by simpa using hb1) (by simpa using hb2)
            simp only [Nat.zero_add, List.nil_append] at g1 g2 hrn hk
            exact ⟨_, _, _, _, _, hrn, g1, g2, hk⟩
        · rename_i ad
          rcases vr_slice hs with ⟨t', a', hφ, hro, hsp, rfl, rfl, hc⟩ | ⟨t', ra, c', hφ, hsp, hc, hcase⟩
          · have hbo : Nat.blt 0 opn = true := by decide
            rw [hbo, cond_true] at hk
            cases hroom : Nat.ble (0 + n) 0 with
            | true =>
              rw [hroom, cond_true] at hk
              simp only [Option.bind_eq_some_iff] at hk
              obtain ⟨h', hst, hk⟩ := hk
              exfalso
              obtain ⟨cc, op, ee, hb, _⟩ := st_inv hst
              obtain ⟨t2, k1, k2, _⟩ := hr.cells _ _ _ _ _ hb
              rw [hφ] at k1
              obtain rfl := Option.some.inj k1
              rw [hro] at k2; cases k2
            | false =>
              rw [hroom, cond_false] at hk
              have hroom' : 0 < 0 + n := by
                rcases Nat.lt_or_ge 0 (0 + n) with h' | h'
                · exact h'
                · rw [Nat.ble_eq_true_of_le h'] at hroom; cases hroom
              simp only [Option.bind_eq_some_iff] at hk
              obtain ⟨old, hold, hk⟩ := hk
              obtain ⟨olds, o1, o2, o3, o4⟩ := ldRow_rel hr hφ hold
              have hold' : (Builtin.firstCells i.size 0 (.slice (some a') 0 0)).run P w.drew = .ok olds.toArray w.drew := by
                have : olds = [] := by apply List.eq_nil_of_length_eq_zero; rw [← o1.length, o2]; simp
                subst this
                exact run_firstCells_some (P := P) w.drew i.size 0 a' 0 0 [] (by simp) (fun j v hj => by simp at hj)
              have hcap : 0 + n ≤ grownCap w (0 + n) 0 e := cap_gt
              obtain ⟨g1, g2⟩ := append_new_good (φ := φ) (w := w) (e := e) (h := h) (sLen := 0) (n := n) (cap := grownCap w (0 + n) 0 e) hzs o1 hcs o4 hlok o2 hll h ⟨hr, rfl⟩ hcap
              have hrn := run_append_new (P := P) (w := w) (t := t) (tx := tx) (ty := ty) hd hdx hni' hi hz (hlen w) hrund hold' hroom' hb1 hb2
              rw [hc]
              exact ⟨_, _, _, _, _, hrn, g1, g2, hk⟩
          rcases hcase with ⟨hlt, rfl, hra⟩ | ⟨rfl, hle, htot, hra⟩
          · -- the capacity is known
            have hbo : Nat.blt c' opn = true := Nat.ble_eq_true_of_le hlt
            rw [hbo, cond_true] at hk
            cases hroom : Nat.ble (sLen + n) c' with
            | true =>
              rw [hroom, cond_true] at hk
              have hroom' := Nat.le_of_ble_eq_true hroom
              simp only [Option.bind_eq_some_iff] at hk
              obtain ⟨h', hst, hk⟩ := hk
              obtain ⟨w', hst', hgood⟩ := st_sound (P := P) hr hφ hcs hlok hst
              have hvr : VR φ (.slice (some ad) (sLen + n) c') (.slice (some ⟨t'.blk, ra, none⟩) (sLen + n) c') := by
                obtain ⟨ab, ao, as⟩ := ad
                simp only at hsp; subst hsp
                exact mk_slice hφ hlt (hra.imp id fun ⟨p, q⟩ => ⟨by omega, q⟩)
              refine ⟨φ, _, h', _, w', ?_, hgood, hvr, hk⟩
              rw [hc]
              refine run_append_in hd hdx hni' hi (hlen w) hrunw hroom' (fun a ha => ?_) (fun e => by cases e)
              obtain rfl := Option.some.inj ha
              rw [add_lit]
              rcases hra with rfl | ⟨rfl, rfl⟩
              · rw [← hst', Nat.add_assoc]
              · have hn0 : n = 0 := by omega
                subst hn0
                have hc0 : cs = [] := by apply List.eq_nil_of_length_eq_zero; omega
                subst hc0
                have : w' = w := by simpa [storeCells] using hst'.symm
                simp [storeCells, this]
            | false =>
              rw [hroom, cond_false] at hk
              have hroom' : c' < sLen + n := by
                rcases Nat.lt_or_ge c' (sLen + n) with h' | h'
                · exact h'
                · rw [Nat.ble_eq_true_of_le h'] at hroom; cases hroom
              simp only [Option.bind_eq_some_iff] at hk
              obtain ⟨old, hold, hk⟩ := hk
              obtain ⟨olds, o1, o2, o3, o4⟩ := ldRow_rel hr hφ hold
              have hold' : (Builtin.firstCells i.size sLen (.slice (some ⟨t'.blk, ra, none⟩) sLen c')).run P w.drew = .ok olds.toArray w.drew := by
                refine run_firstCells_at (by rw [← o1.length, o2]) rfl fun j c hj => ?_
                rcases hra with rfl | ⟨rfl, rfl⟩
                · exact o3 j c hj
                · have : olds = [] := by apply List.eq_nil_of_length_eq_zero; rw [← o1.length, o2]; simp
                  subst this; simp at hj
              have hcap : sLen + n ≤ grownCap w (sLen + n) c' e := cap_gt
              obtain ⟨g1, g2⟩ := append_new_good (φ := φ) (w := w) (e := e) (h := h) (sLen := sLen) (n := n) (cap := grownCap w (sLen + n) c' e) hzs o1 hcs o4 hlok o2 hll h ⟨hr, rfl⟩ hcap
              have hrn := run_append_new (P := P) (w := w) (t := t) (tx := tx) (ty := ty) hd hdx hni' hi hz (hlen w) hrund hold' hroom' hb1 hb2
              rw [hc]
              exact ⟨_, _, _, _, _, hrn, g1, g2, hk⟩
          · -- the capacity is not known
            have hbo : Nat.blt opn opn = false := by decide
            rw [hbo, cond_false] at hk
            split at hk
            · rename_i c esz hbk
              cases hes : Nat.beq esz i.size with
              | false => rw [hes, cond_false] at hk; cases hk
              | true =>
              rw [hes, cond_true] at hk
              have := Nat.eq_of_beq_eq_true hes
              subst this
              obtain ⟨t2, g1, g2, g3, g4, g5, g6⟩ := hr.cells ad.block c true false i.size hbk
              rw [hφ] at g1
              obtain rfl := Option.some.inj g1
              obtain ⟨rc, el, hg, hrc⟩ := g5 rfl
              cases hin : Nat.ble (ad.off + (sLen + n) * i.size) c.length with
              | true =>
                rw [hin, cond_true] at hk
                have hin' := Nat.le_of_ble_eq_true hin
                simp only [Option.bind_eq_some_iff] at hk
                obtain ⟨h', hst, hk⟩ := hk
                obtain ⟨w', hst', hgood⟩ := st_sound (P := P) hr hφ hcs hlok hst
                have hroom' : sLen + n ≤ c' := by
                  rw [g3] at htot
                  have : (sLen + n) * i.size ≤ c' * i.size := by omega
                  exact Nat.le_of_mul_le_mul_right this hpos
                have hvr : VR φ (.slice (some ad) (sLen + n) opn) (.slice (some ⟨t'.blk, ra, none⟩) (sLen + n) c') := by
                  obtain ⟨ab, ao, as⟩ := ad
                  simp only at hsp; subst hsp
                  exact mk_sliceO hφ hroom' htot (hra.imp id fun ⟨p, q⟩ => ⟨by omega, q⟩)
                refine ⟨φ, _, h', _, w', ?_, hgood, hvr, hk⟩
                rw [hc]
                refine run_append_in hd hdx hni' hi (hlen w) hrunw hroom' (fun a ha => ?_) (fun e => by cases e)
                obtain rfl := Option.some.inj ha
                rw [add_lit]
                rcases hra with rfl | ⟨rfl, rfl⟩
                · rw [← hst', Nat.add_assoc]
                · have hn0 : n = 0 := by omega
                  subst hn0
                  have hc0 : cs = [] := by apply List.eq_nil_of_length_eq_zero; omega
                  subst hc0
                  have : w' = w := by simpa [storeCells] using hst'.symm
                  simp [storeCells, this]
              | false =>
                rw [hin, cond_false] at hk
                cases hpre : Nat.ble (ad.off + sLen * i.size) c.length with
                | false => rw [hpre, cond_false] at hk; cases hk
                | true =>
                rw [hpre, cond_true] at hk
                have hpre' := Nat.le_of_ble_eq_true hpre
                by_cases hroom' : sLen + n ≤ c'
                · -- in place
                  have hra' : ra = t'.sh + ad.off := by
                    rcases hra with h1 | ⟨h1, h2⟩
                    · exact h1
                    · exfalso
                      have hn0 : n = 0 := by omega
                      subst hn0 h1
                      simp only [Nat.zero_mul, Nat.add_zero] at hpre' hin
                      rw [Nat.ble_eq_true_of_le hpre'] at hin
                      cases hin
                  subst hra'
                  have hmul : (sLen + n) * i.size ≤ c' * i.size := Nat.mul_le_mul_right _ hroom'
                  rw [Nat.add_mul] at hmul
                  rw [g3] at htot
                  obtain ⟨w', r1, r2, r3, r4, r5, r6, r7⟩ := run_storeCells_rel (P := P) t'.blk (t'.sh + ad.off + sLen * i.size) el cs 0 rc w hg (by omega) (fun u hu => by
                    obtain ⟨j, hj, rfl⟩ := List.mem_iff_getElem.1 hu
                    have hj' : j < l.length := by omega
                    exact (hcs.get2 j l[j] cs[j] (by simp) (by simp)).oneCell (by rw [List.all_eq_true] at hlok; exact hlok _ (List.getElem_mem hj')))
                  simp only [Nat.add_zero] at r2
                  have hgood := move_sound (w' := w') hr hφ hbk hcs hlok hpre' hg (by omega) hrc r2 r3 r4 r5 r6 r7
                  refine ⟨_, _, _, .slice (some ⟨t'.blk, t'.sh + ad.off, none⟩) (sLen + n) c', w', ?_, hgood, ?_, hk⟩
                  · rw [hc]
                    refine run_append_in hd hdx hni' hi (hlen w) hrunw hroom' (fun a ha => ?_) (fun e => by cases e)
                    obtain rfl := Option.some.inj ha
                    rw [add_lit]
                    exact r1
                  · have := @VR.sliceO (grow φ h.n ⟨t'.blk, t'.sh + ad.off, t'.tot, i.size, false⟩) h.n 0 (sLen + n) c' _ (grow_new φ h.n _) (by simpa using htot) hroom'
                    simpa using this
                · -- a new row
                  have hroom2 : c' < sLen + n := by omega
                  have hold : ldRow h ad.block ad.off (sLen * i.size) = some ((c.drop ad.off).take (sLen * i.size)) := by
                    unfold ldRow; rw [hbk]; simp only [hpre, cond_true]
                  obtain ⟨olds, o1, o2, o3, o4⟩ := ldRow_rel hr hφ hold
                  have hold' : (Builtin.firstCells i.size sLen (.slice (some ⟨t'.blk, ra, none⟩) sLen c')).run P w.drew = .ok olds.toArray w.drew := by
                    refine run_firstCells_at (by rw [← o1.length, o2]) rfl fun j c hj => ?_
                    rcases hra with rfl | ⟨rfl, rfl⟩
                    · exact o3 j c hj
                    · have : olds = [] := by apply List.eq_nil_of_length_eq_zero; rw [← o1.length, o2]; simp
                      subst this; simp at hj
                  have hcap : sLen + n ≤ grownCap w (sLen + n) c' e := cap_gt
                  obtain ⟨g1, g2⟩ := append_new_good (φ := φ) (w := w) (e := e) (h := h) (sLen := sLen) (n := n) (cap := grownCap w (sLen + n) c' e) hzs o1 hcs o4 hlok o2 hll (h.set ad.block none) ⟨forget_rel hr _, rfl⟩ hcap
                  have hrn := run_append_new (P := P) (w := w) (t := t) (tx := tx) (ty := ty) hd hdx hni' hi hz (hlen w) hrund hold' hroom2 hb1 hb2
                  rw [hc]
                  exact ⟨_, _, _, _, _, hrn, g1, g2, hk⟩
            · cases hk
      · cases hk
  · cases hk
end
end Go.Lg
