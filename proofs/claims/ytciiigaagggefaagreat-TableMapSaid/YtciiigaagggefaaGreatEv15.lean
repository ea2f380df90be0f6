/- Soundness of the evaluator. Part 13: regions in the text's order, code, loops, calls. -/
import Derived.Test.YtciiigaagggefaaGreatEv24
import Derived.Laws.BytesString
import Derived.Orders
set_option linter.unusedVariables false
set_option linter.unusedSimpArgs false
namespace Go.Lg
open Go

def exOf : Ex → Exit
  | .normal => .normal
  | .exit i => .exit i
  | .ret => .ret

def CallsOK (P : Program) (O : Orc) : Prop := ∀ f args h r, O.call f args h = some r → CallOK P f args h r

section
variable {P : Program} {O : Orc} {nt : Nat}

theorem evOp_wp (hO : CallsOK P O) {φ : Emb} {h : AH} {w : World} {a : Act} {tm : T Value} {K : Option Value → AH → Res} {r : Value × AH} (o : Oper)
    (hr : HRel φ h w) (ht : TR φ tm nt a.tmps) (hk : evOp P O tm o.op h K = some r) {next : Act → World → Prop} {Q : Exit → Act → World → Prop}
    (hnext : ∀ φ' v h' c w', Good φ w h' w' φ' → (∀ x, v = some x → VR φ' x c) → K v h' = some r → next (a.put o.dst c) w') : o.wp P a w next Q := by
  have fin : OpOK P φ h w a o K r → o.wp P a w next Q := by
    rintro ⟨φ', v, h', c, w', hrun, hg, hv, hk'⟩
    unfold Oper.wp
    rcases hrun with hrun | ⟨hrun, rfl⟩
    · rw [hrun]; exact hnext φ' v h' c w' hg hv hk'
    · rw [hrun]; exact hnext φ' v h' undef w' hg hv hk'
  obtain ⟨dst, op, ty, pos, after, guard⟩ := o
  simp only at hk
  cases op with
  | move x => exact fin (ok_move hr ht hk)
  | assign x => exact fin (ok_assign hr ht hk)
  | pick c x y => exact fin (ok_pick hr ht hk)
  | alloc e => exact fin (ok_alloc hr hk)
  | box e x => exact fin (ok_box hr ht hk)
  | build t ps => exact fin (ok_build hr ht hk)
  | buildSlice t n ps => exact fin (ok_buildSlice hr ht hk)
  | load t x => exact fin (ok_load hr ht hk)
  | store t x y => exact fin (ok_store hr ht hk)
  | nilCheck x => exact fin (ok_nilCheck hr ht hk)
  | binOp op t x y u => exact fin (ok_binOp hr ht hk)
  | unOp op t x => exact fin (ok_unOp hr ht hk)
  | convert s d x => exact fin (ok_convert hr ht hk)
  | makeInterface t x => exact fin (ok_makeInterface hr ht hk)
  | makeFunc fn xs ys => exact fin (ok_makeFunc hr ht hk)
  | makeSlice t x y => exact fin (ok_makeSlice hr ht hk)
  | slice t x lo hi mx => exact fin (ok_slice hr ht hk)
  | fieldAddr t x f => exact fin (ok_fieldAddr hr ht hk)
  | field t x f => exact fin (ok_field hr ht hk)
  | indexAddr t x y => exact fin (ok_indexAddr hr ht hk)
  | index t x y => exact fin (ok_index hr ht hk)
  | extract x i => exact fin (ok_extract hr ht hk)
  | makeMap t x => exact fin (ok_makeMap hr ht hk)
  | lookup t x i ok => exact fin (ok_lookup hr ht hk)
  | mapUpdate t m k x => exact fin (ok_mapUpdate hr ht hk)
  | range t x => exact fin (ok_range hr ht hk)
  | entry x => exact fin (ok_entry hr ht hk)
  | call c =>
    obtain ⟨cl, args, ats⟩ := c
    by_cases hb : ∃ b, cl = .builtin b
    · obtain ⟨b, rfl⟩ := hb
      simp only [evOp] at hk
      obtain ⟨φ', v, h', c, w', h1, h2, h3, h4⟩ := evBuiltin_sound (ty := ty) (cst := args.map fun | .const _ => true | _ => false) hr ht hk
      refine fin ⟨φ', some v, h', c, w', .inl ?_, h2, fun x hx => by obtain rfl := Option.some.inj hx; exact h3, h4⟩
      simp only [execOp, resolve, Sem.run_bind, Sem.run_pure, Result.andThen_ok, invoke]
      exact h1
    · have hnb : ∀ b, cl ≠ .builtin b := fun b e => hb ⟨b, e⟩
      have hk' : ((calleeX P tm cl).bind fun f => (opvs tm args.toList).bind fun vs => cond (hasBody P f.1) ((O.call f.1 (f.2.1 ++ vs ++ f.2.2) h).bind fun r => K (some r.1) r.2) none) = some r := by
        cases cl with
        | builtin b => exact absurd rfl (hnb b)
        | value x => exact hk
        | invoke x n => exact hk
      simp only [Option.bind_eq_some_iff] at hk'
      obtain ⟨⟨f, first, cap⟩, h1, vs, h2, h3⟩ := hk'
      rw [calleeX_eq] at h1
      cases hbo : hasBody P f with
      | false => simp only [hbo, cond_false] at h3; cases h3
      | true =>
      simp only [hbo, cond_true, Option.bind_eq_some_iff] at h3
      obtain ⟨r1, h4, h5⟩ := h3
      obtain ⟨cs, h6, h7⟩ := calleeOf_sound (ats := ats) (ty := ty) ht hnb h1 h2 hbo
      unfold Oper.wp
      have he : (execOp a.eval ⟨dst, .call ⟨cl, args, ats⟩, ty, pos, after, guard⟩).run P w = .ok (.enter f cs.toArray) w := by
        simp only [execOp]; exact h7
      rw [he, Oper.upon_enter]
      refine (hO f _ h r1 h4 φ w cs hr h6).1.mono ?_
      rintro e w' ⟨φ', c, rfl, hg, hv⟩
      exact hnext φ' (some r1.1) r1.2 c w' hg (fun x hx => by obtain rfl := Option.some.inj hx; exact hv) h5
  | _ => simp [evOp] at hk

theorem put_inv {tm : T Value} {dst : Option Tmp} {v : Option Value} {K : T Value → Res} {r : Value × AH} (h : put nt tm dst v K = some r) {φ : Emb} {a : Act} (ht : TR φ tm nt a.tmps) {c : Value} (hv : ∀ x, v = some x → VR φ x c) :
    ∃ tm', K tm' = some r ∧ TR φ tm' nt (a.put dst c).tmps := by
  unfold put at h
  cases dst with
  | none => exact ⟨tm, h, ht⟩
  | some d =>
    simp only at h
    cases hb : Nat.blt d nt with
    | false => rw [hb, cond_false] at h; cases h
    | true =>
      rw [hb, cond_true] at h
      exact ⟨_, h, ht.set (Nat.le_of_ble_eq_true hb) hv⟩
theorem put_defers (a : Act) (dst : Option Tmp) (c : Value) : (a.put dst c).defers = a.defers := by cases dst <;> rfl

theorem evOps_wpL (hO : CallsOK P O) (ops : Array Oper) {Q : Exit → Act → World → Prop} (l2 : List Oper) : ∀ (l : List Oper) {φ : Emb} {h : AH} {w : World} {a : Act} {tm : T Value} {K : T Value → AH → Res} {r : Value × AH},
    HRel φ h w → TR φ tm nt a.tmps → evOps P O nt ops.toList l tm h K = some r →
    (∀ φ' tm' h' a' w', Good φ w h' w' φ' → TR φ' tm' nt a'.tmps → a'.defers = a.defers → K tm' h' = some r → wpList P ops Q l2 a' w') → wpList P ops Q (l ++ l2) a w
  | [], φ, h, w, a, tm, K, r, hr, ht, hk, hQ => hQ φ tm h a w (.refl hr) ht rfl hk
  | o :: rest, φ, h, w, a, tm, K, r, hr, ht, hk, hQ => by
    have run : ∀ tm, TR φ tm nt a.tmps → (evOpX P O tm o.type o.op h fun v h => put nt tm o.dst v fun tm => evOps P O nt ops.toList rest tm h K) = some r → o.wp P a w (wpList P ops Q (rest ++ l2)) Q := by
      intro tm ht hk
      refine evOp_wp hO o hr ht (evOpX_le hk) fun φ' v h' c w' hg hv hk' => ?_
      obtain ⟨tm', h1, h2⟩ := put_inv hk' (ht.mono hg.ext.1) hv
      exact evOps_wpL hO ops l2 rest hg.rel h2 h1 fun φ2 tm2 h2' a2 w2 g2 t2 d2 k2 => hQ φ2 tm2 h2' a2 w2 (hg.trans g2) t2 (d2.trans (put_defers _ _ _)) k2
    have skip : ∀ tm, TR φ tm nt a.tmps → (put nt tm o.dst (some skipV) fun tm => evOps P O nt ops.toList rest tm h K) = some r → wpList P ops Q (rest ++ l2) (a.put o.dst undef) w := by
      intro tm ht hk
      obtain ⟨tm', h1, h2⟩ := put_inv (c := undef) hk ht (fun x hx => by obtain rfl := Option.some.inj hx; exact .tuple rfl (by simp))
      exact evOps_wpL hO ops l2 rest hr h2 h1 fun φ2 tm2 h2' a2 w2 g2 t2 d2 k2 => hQ φ2 tm2 h2' a2 w2 g2 t2 (d2.trans (put_defers _ _ _)) k2
    simp only [evOps] at hk
    simp only [List.cons_append, wpList]
    split at hk
    · rename_i hg
      rw [if_pos (by simp [Region.wanted, hg])]
      exact .inl (run tm ht hk)
    · rename_i j want hg
      split at hk
      · cases hk
      · rename_i d hd
        split at hk
        · rename_i b hb
          obtain ⟨c, hc1, hc2⟩ := ht.val d _ hb
          obtain rfl := vr_bool hc2
          have hd' : (ops[j]?).bind (·.dst) = some d := by rw [← hd, Array.getElem?_toList]
          have hy : yielded ops a.tmps j = some b := by simp [yielded, hd', hc1]
          have hw : Region.wanted o (yielded ops a.tmps) = (b == want) := by simp [Region.wanted, hg, hy]
          rw [hw]
          cases b with
          | true =>
            have ht' := ht.same hb
            simp only [cond_true] at hk
            cases want with
            | true => rw [if_pos (by decide)]; exact .inl (run _ ht' hk)
            | false => rw [if_neg (by decide)]; exact skip _ ht' hk
          | false =>
            have ht' := ht.same hb
            simp only [cond_false] at hk
            cases want with
            | true => rw [if_neg (by decide)]; exact skip _ ht' hk
            | false => rw [if_pos (by decide)]; exact .inl (run _ ht' hk)
        · rename_i vs hb
          obtain ⟨c, hc1, hc2⟩ := ht.val d _ hb
          have hd' : (ops[j]?).bind (·.dst) = some d := by rw [← hd, Array.getElem?_toList]
          have hw : Region.wanted o (yielded ops a.tmps) = false := by
            cases hc2 with
            | tuple _ _ => simp [Region.wanted, hg, yielded, hd', hc1]
          rw [hw, if_neg (by decide)]
          exact skip _ ht hk
        · cases hk

theorem evOps_wp (hO : CallsOK P O) (ops : Array Oper) {Q : Exit → Act → World → Prop} (l : List Oper) {φ : Emb} {h : AH} {w : World} {a : Act} {tm : T Value} {K : T Value → AH → Res} {r : Value × AH}
    (hr : HRel φ h w) (ht : TR φ tm nt a.tmps) (hk : evOps P O nt ops.toList l tm h K = some r)
    (hQ : ∀ φ' tm' h' a' w', Good φ w h' w' φ' → TR φ' tm' nt a'.tmps → a'.defers = a.defers → K tm' h' = some r → Q .normal a' w') : wpList P ops Q l a w := by
  have := evOps_wpL hO ops [] (Q := Q) l hr ht hk hQ
  rwa [List.append_nil] at this

theorem exists_min (p : Nat → Prop) (h : ∃ n, p n) : ∃ n, p n ∧ ∀ m, p m → n ≤ m := by
  obtain ⟨n, hn⟩ := h
  induction n using Nat.strongRecOn with
  | _ n ih =>
    by_cases hx : ∃ m, m < n ∧ p m
    · obtain ⟨m, hm, hp⟩ := hx
      exact ih m hm hp
    · refine ⟨n, hn, fun m hm => ?_⟩
      rcases Nat.lt_or_ge m n with h | h
      · exact absurd ⟨m, h, hm⟩ hx
      · exact h
noncomputable def least (p : Nat → Prop) (h : ∃ n, p n) : Nat := Classical.choose (exists_min p h)
theorem least_spec (p : Nat → Prop) (h : ∃ n, p n) : p (least p h) := (Classical.choose_spec (exists_min p h)).1
theorem least_le (p : Nat → Prop) (h : ∃ n, p n) {m : Nat} (hm : p m) : least p h ≤ m := (Classical.choose_spec (exists_min p h)).2 m hm

/-- what running a piece of code owes -/
def CodeOK (P : Program) (nt : Nat) (c : Code) (tm : T Value) (h : AH) (K : Ex → T Value → AH → Res) (r : Value × AH) : Prop :=
  ∀ (φ : Emb) (w : World) (a : Act), HRel φ h w → TR φ tm nt a.tmps → ∀ Q : Exit → Act → World → Prop, DClosed P Q →
    (∀ ex φ' tm' h' a' w', Good φ w h' w' φ' → TR φ' tm' nt a'.tmps → a'.defers = a.defers → K ex tm' h' = some r → Q (exOf ex) a' w') → c.wp P Q a w

def LoopsOK (P : Program) (O : Orc) : Prop := ∀ nt kp b tm h K r, O.loop nt kp b tm h K = some r → CodeOK P nt (.loop b) tm h K r
def CodesOK (P : Program) (O : Orc) : Prop := ∀ nt kp c tm h K r, O.code nt kp c tm h K = some r → CodeOK P nt c tm h K r
def DrawOK (P : Program) (D : DrawEv) : Prop := ∀ O, CallsOK P O → ∀ nt ops tm h K r, D O nt ops tm h K = some r → ∀ id, CodeOK P nt (.region id ops true) tm h (fun ex tm h => match ex with | .normal => K tm h | _ => none) r

/-- what a summary owes -/
def SumOK (P : Program) (S : SumEv) : Prop := ∀ f g, S f = some g → ∀ vs h l, g vs h = some l → ∀ (φ : Emb) (w : World) (cs : List Value), HRel φ h w → VRs φ vs cs →
  Calls P f cs.toArray w fun e w' => ∃ q ∈ l, ∃ φ' c, e = .returned c ∧ Good φ w q.2 w' φ' ∧ VR φ' q.1 c
theorem noSum_ok (P : Program) : SumOK P noSum := fun _ _ h => by cases h

theorem veqs_true : ∀ {a b : List Value}, veqs a b = true → a = b
  | [], [], _ => rfl
  | a :: l, b :: m, h => by
    simp only [veqs, Bool.and_eq_true] at h
    rw [veq_true h.1, veqs_true h.2]
  | [], _ :: _, h => by simp [veqs] at h
  | _ :: _, [], h => by simp [veqs] at h
theorem eeqs_true : ∀ {a b : List MapEntry}, eeqs a b = true → a = b
  | [], [], _ => rfl
  | ⟨k, v, n⟩ :: l, ⟨k', v', n'⟩ :: m, h => by
    simp only [eeqs, Bool.and_eq_true] at h
    rw [veq_true h.1.1.1, veq_true h.1.1.2, Nat.eq_of_beq_eq_true h.1.2, eeqs_true h.2]
  | [], _ :: _, h => by simp [eeqs] at h
  | _ :: _, [], h => by simp [eeqs] at h
theorem beq2_true {a b : Blk} (h : beq2 a b = true) : a = b := by
  cases a <;> cases b <;> simp only [beq2, Bool.and_eq_true] at h
  · rw [veqs_true h.1.1.1, eq_of_beq h.1.1.2, eq_of_beq h.1.2, Nat.eq_of_beq_eq_true h.2]
  · cases h
  · cases h
  · cases h
  · rw [eeqs_true h.1, Nat.eq_of_beq_eq_true h.2]
  · cases h
  · cases h
  · cases h
  · cases h
theorem teq_true : ∀ {a b : T Blk}, teq a b = true → a = b
  | .nil, .nil, _ => rfl
  | .node v l r, .node v' l' r', h => by
    simp only [teq, Bool.and_eq_true] at h
    have hv : v = v' := by
      have := h.1.1
      cases v <;> cases v' <;> simp only [beqO] at this
      · rfl
      · cases this
      · cases this
      · rw [beq2_true this]
    rw [hv, teq_true h.1.2, teq_true h.2]
  | .nil, .node _ _ _, h => by simp [teq] at h
  | .node _ _ _, .nil, h => by simp [teq] at h
theorem resEq_true {a b : Res} (h : resEq a b = true) : a = b := by
  cases a <;> cases b <;> simp only [resEq, Bool.and_eq_true] at h
  · cases h
  · cases h
  · cases h
  · rename_i x y
    obtain ⟨v, n, t⟩ := x
    obtain ⟨v', n', t'⟩ := y
    obtain rfl : v = v' := veq_true h.1.1
    obtain rfl : n = n' := Nat.eq_of_beq_eq_true h.1.2
    obtain rfl : t = t' := teq_true h.2
    rfl
theorem allR_inv {l : List Res} {r : Value × AH} (h : allR l = some r) : ∀ q ∈ l, q = some r := by
  cases l with
  | nil => cases h
  | cons a rs =>
    simp only [allR] at h
    cases hb : rs.all (resEq a) with
    | false =>
      rw [hb, cond_false] at h
      split at h
      · rename_i hall
        intro q hq
        cases hq with
        | head => exact h
        | tail _ hq => rw [hall q hq]; exact h
      · cases h
    | true =>
      rw [hb, cond_true] at h
      subst h
      intro q hq
      cases hq with
      | head => rfl
      | tail _ hq =>
        rw [List.all_eq_true] at hb
        exact (resEq_true (hb q hq)).symm

theorem bytesOf_get : ∀ {vs : List Value} {l : List UInt8}, bytesOf vs = some l → ∃ ns : List Int, vs = ns.map (Value.int .u8) ∧ l = ns.map fun n => UInt8.ofNat n.toNat
  | [], l, h => by simp only [bytesOf, Option.some.injEq] at h; subst h; exact ⟨[], rfl, rfl⟩
  | v :: vs, l, h => by
    unfold bytesOf at h
    split at h
    · rename_i e; cases e
    · rename_i n vs' e
      cases e
      simp only [Option.bind_eq_some_iff] at h
      obtain ⟨m, hm, h⟩ := h
      obtain rfl := Option.some.inj h
      obtain ⟨ns, rfl, rfl⟩ := bytesOf_get hm
      exact ⟨n :: ns, rfl, rfl⟩
    · cases h
theorem foldl_push : ∀ (ns : List Int) (s : ByteArray), ns.foldl (fun r n => r.push (UInt8.ofNat n.toNat)) s = ⟨(s.data.toList ++ ns.map fun n => UInt8.ofNat n.toNat).toArray⟩
  | [], s => by simp
  | n :: ns, s => by
    rw [List.foldl_cons, foldl_push ns]
    simp [ByteArray.push]
theorem vrs_u8 {φ : Emb} : ∀ {ns : List Int} {cs : List Value}, VRs φ (ns.map (Value.int .u8)) cs → cs = ns.map (Value.int .u8)
  | [], cs, h => by cases h; rfl
  | n :: ns, cs, h => by
    cases h with
    | cons h1 h2 => rw [vrs_u8 h2, vr_int h1]; rfl
theorem convAt_run {dst : Option Tmp} {op : Op} {ty : TypeId} {pos : String} {after : Array Edge} {guard : Option (Tmp × Bool)} {φ : Emb} {h : AH} {w : World} {a : Act} {tm : T Value} {sx : ByteArray} (hr : HRel φ h w) (ht : TR φ tm nt a.tmps) (hp : convAt P tm ⟨dst, op, ty, pos, after, guard⟩ h = some sx) :
    ∃ src d x, op = .convert src d x ∧ guard = none ∧ (convert src d (a.eval x)).run P w = .ok (.string sx) w := by
  unfold convAt at hp
  simp only at hp
  split at hp
  · rename_i src d x
    refine ⟨src, d, x, rfl, rfl, ?_⟩
    split at hp
    · rename_i e ad n c hs hd hx
      have hv := opv_rel ht hx
      split at hp
      · rename_i he
        have key : ∀ a' l c', (convert src d (.slice a' l c')).run P w = (Conv.bytesToString (.slice a' l c')).run P w := fun a' l c' => run_convert_bytes_string w src d e a' l c' hs he hd
        split at hp
        · obtain rfl := Option.some.inj hp
          generalize a.eval x = y at hv
          cases hv
          rw [key]; rfl
        · rename_i b o
          simp only [Option.bind_eq_some_iff] at hp
          obtain ⟨row, hrow, l, hl, hp⟩ := hp
          obtain rfl := Option.some.inj hp
          obtain ⟨ns, hns, rfl⟩ := bytesOf_get hl
          have hz : n = 0 → (⟨(ns.map fun n => UInt8.ofNat n.toNat).toArray⟩ : ByteArray) = ⟨#[]⟩ := fun h0 => by
            subst h0
            obtain ⟨cc, op, ro, esz, hb, hlen, hl2⟩ := ldRow_inv hrow
            rw [List.take_zero] at hl2
            rw [hl2] at hns
            cases ns with
            | nil => rfl
            | cons _ _ => simp at hns
          have h0 : ∀ (a' : Addr) c', (Conv.bytesToString (.slice (some a') 0 c')).run P w = .ok (.string ⟨#[]⟩) w := fun a' c' => by
            have : (loadCells a' 0).run P w = .ok (([] : List Int).map (Value.int .u8)).toArray w := by rfl
            exact run_bytesToString w a' 0 c' [] this
          have main : ∀ (t : Tgt) c', φ b = some t → (Conv.bytesToString (.slice (some ⟨t.blk, t.sh + o, none⟩) n c')).run P w = .ok (.string ⟨(ns.map fun n => UInt8.ofNat n.toNat).toArray⟩) w := fun t c' ht' => by
            obtain ⟨cs, g1, g2, g3, g4⟩ := ldRow_rel hr ht' hrow
            subst hns
            have e1 := vrs_u8 g1
            subst e1
            have hlc := run_loadCells_list (P := P) w ⟨t.blk, t.sh + o, none⟩ (ns.map (Value.int .u8)) (fun j v hj => by rw [add_lit]; exact g3 j v hj)
            rw [g2] at hlc
            have := run_bytesToString w ⟨t.blk, t.sh + o, none⟩ n c' ns hlc
            rw [this, foldl_push]
            rfl
          generalize a.eval x = y at hv
          cases hv with
          | slice h3 h4 => rw [key]; exact main _ _ h3
          | sliceO h3 h4 h5 => rw [key]; exact main _ _ h3
          | sliceE h3 h4 => rw [key, h0, hz rfl]
          | sliceZ h3 => rw [key, h0, hz rfl]
          | sliceV h3 h4 => rw [key, h0, hz rfl]
        · cases hp
      · cases hp
    · cases hp
  · cases hp
theorem evOpsS_wpL {S : SumEv} (hS : SumOK P S) (hO : CallsOK P O) (ops : Array Oper) {Q : Exit → Act → World → Prop} (l2 : List Oper) : ∀ (l : List Oper) {φ : Emb} {h : AH} {w : World} {a : Act} {tm : T Value} {K : T Value → AH → Res} {r : Value × AH},
    HRel φ h w → TR φ tm nt a.tmps → evOpsS P S O nt ops.toList l tm h K = some r →
    (∀ φ' tm' h' a' w', Good φ w h' w' φ' → TR φ' tm' nt a'.tmps → a'.defers = a.defers → K tm' h' = some r → wpList P ops Q l2 a' w') → wpList P ops Q (l ++ l2) a w
  | [], φ, h, w, a, tm, K, r, hr, ht, hk, hQ => hQ φ tm h a w (.refl hr) ht rfl hk
  | o :: rest, φ, h, w, a, tm, K, r, hr, ht, hk, hQ => by
    simp only [evOpsS] at hk
    split at hk
    · rename_i v0 hn
      obtain ⟨dst, op, ty, pos, after, guard⟩ := o
      unfold nextAt at hn
      simp only at hn
      split at hn
      · rename_i x
        obtain rfl := Option.some.inj hn
        rw [Option.bind_eq_some_iff] at hk
        obtain ⟨v, h1, hk⟩ := hk
        simp only at hk
        unfold nxK at hk
        split at hk
        · cases hk
        · rename_i p hp
          obtain ⟨h0, l⟩ := p
          have hrun := run_next (P := P) (ty := ty) hr (opv_rel ht h1) hp
          simp only [List.cons_append, wpList]
          rw [if_pos (by rfl)]
          refine .inl ?_
          unfold Oper.wp
          split at hk
          · rename_i hl
            obtain rfl : l = [] := hl
            rcases hrun with ⟨_, h2, hg⟩ | ⟨q, hq, _⟩
            · have he : (execOp a.eval ⟨dst, .next x false, ty, pos, after, none⟩).run P w = .ok (.value (.tuple #[.bool false])) w := run_v h2
              rw [he]
              obtain ⟨tm', h9, h10⟩ := put_inv (a := a) (c := .tuple #[.bool false]) hk (ht.mono hg.ext.1) (fun x hx => by obtain rfl := Option.some.inj hx; exact .tuple rfl (fun i v v' e1 e2 => by
                match i, e1, e2 with
                | 0, e1, e2 => simp at e1 e2; subst e1; subst e2; exact .bool _
                | n + 1, e1, e2 => simp at e1))
              exact evOpsS_wpL hS hO ops l2 rest hg.rel h10 h9 fun φ2 tm2 h2' a2 w2 g2 t2 d2 k2 => hQ φ2 tm2 h2' a2 w2 (hg.trans g2) t2 (d2.trans (put_defers _ _ _)) k2
            · cases hq
          · rename_i q l' hl
            obtain rfl : l = q :: l' := hl
            rcases hrun with ⟨h2, _⟩ | ⟨q1, hq, ck, cv, w', h2, hg, hv1, hv2⟩
            · cases h2
            · have he : (execOp a.eval ⟨dst, .next x false, ty, pos, after, none⟩).run P w = .ok (.value (.tuple #[.bool true, ck, cv])) w' := run_v h2
              rw [he]
              have h8 := allR_inv hk (put nt tm dst (some (.tuple #[.bool true, q1.1, q1.2.1])) fun tm => evOpsS P S O nt ops.toList rest tm q1.2.2 K) (by
                cases hq with
                | head => exact .head _
                | tail _ hq => exact .tail _ (List.mem_map.2 ⟨q1, hq, rfl⟩))
              obtain ⟨tm', h9, h10⟩ := put_inv (a := a) (c := .tuple #[.bool true, ck, cv]) h8 (ht.mono hg.ext.1) (fun x hx => by obtain rfl := Option.some.inj hx; exact .tuple rfl (fun i v v' e1 e2 => by
                match i, e1, e2 with
                | 0, e1, e2 => simp at e1 e2; subst e1; subst e2; exact .bool _
                | 1, e1, e2 => simp at e1 e2; subst e1; subst e2; exact hv1
                | 2, e1, e2 => simp at e1 e2; subst e1; subst e2; exact hv2
                | n + 3, e1, e2 => simp at e1))
              exact evOpsS_wpL hS hO ops l2 rest hg.rel h10 h9 fun φ2 tm2 h2' a2 w2 g2 t2 d2 k2 => hQ φ2 tm2 h2' a2 w2 (hg.trans g2) t2 (d2.trans (put_defers _ _ _)) k2
      · cases hn
    rename_i hnone
    clear hnone
    unfold convK at hk
    split at hk
    · rename_i sx hp
      obtain ⟨dst, op, ty, pos, after, guard⟩ := o
      obtain ⟨src, d, x, rfl, rfl, hrun⟩ := convAt_run (a := a) hr ht hp
      simp only at hk
      simp only [List.cons_append, wpList]
      rw [if_pos (by rfl)]
      refine .inl ?_
      unfold Oper.wp
      have he : (execOp a.eval ⟨dst, .convert src d x, ty, pos, after, none⟩).run P w = .ok (.value (.string sx)) w := run_v hrun
      rw [he]
      obtain ⟨tm', h9, h10⟩ := put_inv (a := a) (c := .string sx) hk ht (fun x hx => by obtain rfl := Option.some.inj hx; exact .string _)
      exact evOpsS_wpL hS hO ops l2 rest hr h10 h9 fun φ2 tm2 h2' a2 w2 g2 t2 d2 k2 => hQ φ2 tm2 h2' a2 w2 g2 t2 (d2.trans (put_defers _ _ _)) k2
    rename_i hnone
    clear hnone
    simp only [sumK] at hk
    split at hk
    · rename_i l hp
      obtain ⟨dst, op, ty, pos, after, guard⟩ := o
      unfold sumAt at hp
      simp only at hp
      split at hp
      · rename_i c
        obtain ⟨callee, args, ats⟩ := c
        simp only at hp
        split at hp
        · rename_i f
          simp only [Option.bind_eq_some_iff] at hp
          obtain ⟨ts, h4, g, h1, vs, h2, h3⟩ := hp
          simp only at hk
          have hbo := resTypes_inv h4
          obtain ⟨cs, h6, h7⟩ := calleeOf_sound (cl := .value (.func f)) (ats := ats) (ty := ty) (first := []) (cap := []) ht (fun b e => by cases e) (by simp [calleeOf]) h2 hbo
          simp only [List.nil_append, List.append_nil] at h6
          simp only [List.cons_append, wpList]
          rw [if_pos (by rfl)]
          refine .inl ?_
          unfold Oper.wp
          have he : (execOp a.eval ⟨dst, .call ⟨.value (.func f), args, ats⟩, ty, pos, after, none⟩).run P w = .ok (.enter f cs.toArray) w := by
            simp only [execOp]; exact h7
          rw [he, Oper.upon_enter]
          refine (hS f g h1 vs h l h3 φ w cs hr h6).mono ?_
          rintro e w' ⟨q, hq, φ', c, rfl, hg, hv⟩
          have h8 := castR_inv (allR_inv hk _ (List.mem_map.2 ⟨q, hq, rfl⟩))
          obtain ⟨tm', h9, h10⟩ := put_inv (a := a) (c := c) h8 (ht.mono hg.ext.1) (fun x hx => by obtain rfl := Option.some.inj hx; exact hv)
          exact evOpsS_wpL hS hO ops l2 rest hg.rel h10 h9 fun φ2 tm2 h2' a2 w2 g2 t2 d2 k2 => hQ φ2 tm2 h2' a2 w2 (hg.trans g2) t2 (d2.trans (put_defers _ _ _)) k2
        · cases hp
      · cases hp
    · refine evOps_wpL hO ops (rest ++ l2) [o] hr ht hk fun φ1 tm1 h1 a1 w1 g1 t1 d1 k1 => ?_
      exact evOpsS_wpL hS hO ops l2 rest g1.rel t1 k1 fun φ2 tm2 h2' a2 w2 g2 t2 d2 k2 => hQ φ2 tm2 h2' a2 w2 (g1.trans g2) t2 (d2.trans d1) k2
theorem evOpsS_wp {S : SumEv} (hS : SumOK P S) (hO : CallsOK P O) (ops : Array Oper) {Q : Exit → Act → World → Prop} (l : List Oper) {φ : Emb} {h : AH} {w : World} {a : Act} {tm : T Value} {K : T Value → AH → Res} {r : Value × AH}
    (hr : HRel φ h w) (ht : TR φ tm nt a.tmps) (hk : evOpsS P S O nt ops.toList l tm h K = some r)
    (hQ : ∀ φ' tm' h' a' w', Good φ w h' w' φ' → TR φ' tm' nt a'.tmps → a'.defers = a.defers → K tm' h' = some r → Q .normal a' w') : wpList P ops Q l a w := by
  have := evOpsS_wpL hS hO ops [] (Q := Q) l hr ht hk hQ
  rwa [List.append_nil] at this

theorem evC_wp {D : DrawEv} {S : SumEv} (hS : SumOK P S) (hD : DrawOK P D) (hO : CallsOK P O) (hL : LoopsOK P O) (hG : CodesOK P O) (keep : Nat → Option (List Nat)) : ∀ (c : Code) (tm : T Value) (h : AH) (K : Ex → T Value → AH → Res) (r : Value × AH),
    evC P D S O nt keep c tm h K = some r → CodeOK P nt c tm h K r := by
  intro c
  induction c with
  | skip => intro tm h K r hk φ w a hr ht Q hC hQ; exact wp_skip (hQ .normal φ tm h a w (.refl hr) ht rfl hk)
  | region id ops draw =>
    intro tm h K r hk φ w a hr ht Q hC hQ
    simp only [evC] at hk
    cases draw with
    | false =>
      rw [cond_false] at hk
      exact wp_region_list (evOpsS_wp hS hO ops ops.toList hr ht hk fun φ' tm' h' a' w' g t d k => hQ .normal φ' tm' h' a' w' g t d k)
    | true =>
      rw [cond_true] at hk
      refine hD O hO nt ops tm h _ r hk id φ w a hr ht Q hC fun ex φ' tm' h' a' w' g t d k => ?_
      cases ex with
      | normal => exact hQ .normal φ' tm' h' a' w' g t d k
      | _ => cases k
  | seq x y ihx ihy =>
    intro tm h K r hk φ w a hr ht Q hC hQ
    simp only [evC] at hk
    split at hk
    rotate_left
    · rename_i p hp
      unfold deferOf at hp
      split at hp
      · rename_i id ops draw
        cases draw with
        | true => cases hp
        | false =>
          rw [cond_false] at hp
          simp only [Option.bind_eq_some_iff, Option.some.injEq] at hp
          obtain ⟨⟨pre, x⟩, hs, rfl⟩ := hp
          obtain ⟨⟨dst, op, oty, pos, after, guard⟩, c, hops, rfl, rfl, hop, hcal, hargs⟩ := splitD_inv hs
          simp only at hop
          subst hop
          obtain ⟨callee, cargs, cats⟩ := c
          simp only at hcal hargs
          subst hcal
          have hcargs : cargs = #[] := Array.ext' hargs
          subst hcargs
          refine wp_seq (wp_region_list ?_)
          rw [hops]
          refine evOpsS_wpL hS hO ops _ pre hr ht hk fun φ1 tm1 h1 a1 w1 g1 t1 d1 k1 => ?_
          simp only [wpList]
          rw [if_pos (by rfl)]
          refine .inl ?_
          simp only at k1
          split at k1
          · rename_i f first cap hx
            cases hpl : plainF P f with
            | false => rw [hpl, cond_false] at k1; cases k1
            | true =>
            rw [hpl, cond_true] at k1
            cases hbo : hasBody P f with
            | false => rw [hbo, cond_false] at k1; cases k1
            | true =>
              rw [hbo, cond_true] at k1
              obtain ⟨cv, hcv, hvr⟩ := t1.val x _ hx
              have hev : a1.eval (.tmp x) = cv := by simp [Act.eval, hcv]
              cases hvr with
              | @func _ _ _ as' bs' q1 q2 q3 q4 =>
                have he : (execOp a1.eval ⟨none, .defer ⟨.value (.tmp x), #[], cats⟩, oty, pos, after, none⟩).run P w1 = .ok (.defer { target := .fn (.func f) bs', args := as' }) w1 := by
                  simp [execOp, resolve, hev, Deferred.ofValue]
                unfold Oper.wp
                rw [he, Oper.upon_defer]
                refine ihy tm1 h1 _ r k1 φ1 w1 { tmps := a1.tmps, defers := { target := .fn (.func f) bs', args := as' } :: a1.defers } g1.rel t1 Q hC fun ex φ2 tm2 h2 a2 w2 g2 t2 d2 k2 => ?_
                cases ex with
                | normal => cases k2
                | exit i => cases k2
                | ret =>
                  simp only [defK, Option.bind_eq_some_iff] at k2
                  obtain ⟨r1, k3, k4⟩ := k2
                  have hvs : VRs φ2 (first.toList ++ cap.toList) (as'.toList ++ bs'.toList) :=
                    ((VRs.of_get (by simpa using q1) (by simpa using q2)).append (VRs.of_get (by simpa using q3) (by simpa using q4))).mono g2.ext.1
                  have hcall := (hO f _ h2 r1 k3 φ2 w2 _ g2.rel hvs).2 hpl
                  refine hC a2 w2 (.func f) bs' as' a.defers f (as'.toList ++ bs'.toList).toArray ?_ ?_ (hcall.mono ?_)
                  · rw [d2, d1]
                  · simp only [invoke]
                    rw [run_callFunc hbo]
                    simp
                  · rintro e u w3 ⟨rfl, φ3, c3, rfl, g3, v3⟩
                    exact ⟨rfl, c3, rfl, hQ .ret φ3 tm2 r1.2 _ w3 ((g1.trans g2).trans g3) (t2.mono g3.ext.1) rfl k4⟩
          · cases k1
      · cases hp
    cases hir : (isRegion x && (keep (3 * firstRegion y + 2)).isNone) with
    | true =>
      rw [hir, cond_true] at hk
      refine wp_seq (ihx tm h _ r hk φ w a hr ht _ hC fun ex φ' tm' h' a' w' g t d k => ?_)
      cases ex with
      | normal => exact ihy _ h' K r k φ' w' a' g.rel (t.scrubO _) Q hC fun ex2 φ2 tm2 h2 a2 w2 g2 t2 d2 k2 => hQ ex2 φ2 tm2 h2 a2 w2 (g.trans g2) t2 (d2.trans d) k2
      | exit i => exact hQ (.exit i) φ' tm' h' a' w' g t d k
      | ret => exact hQ .ret φ' tm' h' a' w' g t d k
    | false =>
      rw [hir, cond_false] at hk
      refine wp_seq (ihx tm h _ r hk φ w a hr ht _ hC fun ex φ' tm' h' a' w' g t d k => ?_)
      cases ex with
      | normal => exact hG _ _ y _ h' K r k φ' w' a' g.rel (t.scrubO _) Q hC fun ex2 φ2 tm2 h2 a2 w2 g2 t2 d2 k2 => hQ ex2 φ2 tm2 h2 a2 w2 (g.trans g2) t2 (d2.trans d) k2
      | exit i => exact hQ (.exit i) φ' tm' h' a' w' g t d k
      | ret => exact hQ .ret φ' tm' h' a' w' g t d k
  | cond c x y ihx ihy =>
    intro tm h K r hk φ w a hr ht Q hC hQ
    simp only [evC] at hk
    split at hk
    · rename_i t hc
      have hb := vr_bool (opv_rel ht hc)
      cases t with
      | true => exact wp_cond_true hb (ihx tm h K r hk φ w a hr ht Q hC hQ)
      | false => exact wp_cond_false hb (ihy tm h K r hk φ w a hr ht Q hC hQ)
    · cases hk
  | block id b ih =>
    intro tm h K r hk φ w a hr ht Q hC hQ
    simp only [evC] at hk
    refine wp_block (ih tm h _ r hk φ w a hr ht _ hC fun ex φ' tm' h' a' w' g t d k => ?_)
    cases ex with
    | normal => exact hQ .normal φ' tm' h' a' w' g t d k
    | exit i =>
      simp only [blkK] at k
      simp only [exOf, Exit.inBlock]
      cases hi : Nat.beq i id with
      | true =>
        rw [hi, cond_true] at k
        rw [if_pos (Nat.eq_of_beq_eq_true hi)]
        exact hQ .normal φ' tm' h' a' w' g t d k
      | false =>
        rw [hi, cond_false] at k
        rw [if_neg (fun e => by subst e; rw [Nat.beq_refl] at hi; cases hi)]
        exact hQ (.exit i) φ' tm' h' a' w' g t d k
    | ret => exact hQ .ret φ' tm' h' a' w' g t d k
  | loop b _ =>
    intro tm h K r hk φ w a hr ht Q hC hQ
    simp only [evC] at hk
    refine hL nt keep b _ h _ r hk φ w a hr (ht.scrubO _) Q hC fun ex φ' tm' h' a' w' g t d k => ?_
    exact hQ ex φ' _ h' a' w' g (t.scrubO _) d k
  | exit id => intro tm h K r hk φ w a hr ht Q hC hQ; exact wp_exit (hQ (.exit id) φ tm h a w (.refl hr) ht rfl hk)
  | label l => intro tm h K r hk φ w a hr ht Q hC hQ; exact wp_label (hQ .normal φ tm h a w (.refl hr) ht rfl hk)
  | ret => intro tm h K r hk φ w a hr ht Q hC hQ; exact wp_ret (hQ .ret φ tm h a w (.refl hr) ht rfl hk)
  | _ => intro tm h K r hk; simp [evC] at hk

theorem argsT_get : ∀ (vs : List Value) (i t : Nat), (argsT vs i).get t = if i ≤ t then vs[t - i]? else none
  | [], i, t => by simp [argsT, T.get_nil]
  | v :: vs, i, t => by
    simp only [argsT, T.get_set]
    by_cases e : t = i
    · subst e; simp
    · rw [if_neg e, argsT_get vs (i + 1) t]
      by_cases h : i + 1 ≤ t
      · rw [if_pos h, if_pos (by omega)]
        have : t - i = (t - (i + 1)) + 1 := by omega
        rw [this]; rfl
      · rw [if_neg h, if_neg (by omega)]

def rvSem (ts : Array Value) : ResultVar → Sem Value
  | .tmp t => pure (ts.getD t undef)
  | .cell a t => do loadVar t (← asAddr (ts.getD a undef))

theorem resv_inv {φ : Emb} {w : World} {h : AH} (hr : HRel φ h w) {tm : T Value} {ts : Array Value} (ht : TR φ tm nt ts) : ∀ {rs : List ResultVar} {K : List Value → Res} {r : Value × AH}, resv P tm h rs K = some r →
    ∃ vs cs, VRs φ vs cs ∧ K vs = some r ∧ (rs.mapM (rvSem ts)).run P w = .ok cs w
  | [], K, r, hk => ⟨[], [], .nil, hk, by simp⟩
  | .tmp t :: rs, K, r, hk => by
    simp only [resv, Option.bind_eq_some_iff] at hk
    obtain ⟨v, h1, h2⟩ := hk
    obtain ⟨vs, cs, h3, h4, h5⟩ := resv_inv hr ht h2
    obtain ⟨c, h6, h7⟩ := ht.val t v h1
    refine ⟨v :: vs, c :: cs, .cons h7 h3, h4, ?_⟩
    have e : (rvSem ts (.tmp t)).run P w = .ok c w := by simp [rvSem, h6]
    simp only [List.mapM_cons, Sem.run_bind, Sem.run_pure, Result.andThen_ok, h5, e]
  | .cell a t :: rs, K, r, hk => by
    simp only [resv, Option.bind_eq_some_iff] at hk
    obtain ⟨v, h1, h2⟩ := hk
    unfold addrK at h2
    split at h2
    · simp only [Option.bind_eq_some_iff] at h2
      obtain ⟨ad, rfl, h3⟩ := h2
      obtain ⟨c, h6, h7⟩ := ht.val a _ h1
      obtain ⟨t', hφ, hsp, rfl⟩ := vr_ptr h7
      obtain ⟨v, c, g1, g2, g3⟩ := ldT_sound hr hφ h3
      obtain ⟨vs, cs, k3, k4, k5⟩ := resv_inv hr ht g3
      refine ⟨v :: vs, c :: cs, .cons g2 k3, k4, ?_⟩
      have e : (rvSem ts (.cell a t)).run P w = .ok c w := by simp [rvSem, h6, asAddr, g1]
      simp only [List.mapM_cons, Sem.run_bind, Sem.run_pure, Result.andThen_ok, k5, e]
    · cases h2

theorem one_rel {φ : Emb} {vs cs : List Value} (h : VRs φ vs cs) : VR φ (one vs) (if h : cs.toArray.size = 1 then cs.toArray[0] else .tuple cs.toArray) := by
  cases h with
  | nil => exact VRs.nil.tuple
  | cons h1 h2 =>
    cases h2 with
    | nil => exact h1
    | cons h3 h4 => exact (VRs.cons h1 (VRs.cons h3 h4)).tuple

theorem results_run {φ : Emb} {w : World} {h : AH} (hr : HRel φ h w) {tm : T Value} {ts : Array Value} (ht : TR φ tm nt ts) {fn : Func} {K : List Value → Res} {r : Value × AH} (hk : resv P tm h fn.results.toList K = some r) :
    ∃ vs c, VR φ (one vs) c ∧ K vs = some r ∧ (results fn ts).run P w = .ok c w := by
  obtain ⟨vs, cs, h1, h2, h3⟩ := resv_inv hr ht hk
  refine ⟨vs, _, one_rel h1, h2, ?_⟩
  unfold results
  rw [Array.mapM_eq_mapM_toList]
  have e : (fun x : ResultVar => (match x with | .tmp t => pure (ts.getD t undef) | .cell a t => do loadVar t (← asAddr (ts.getD a undef)) : Sem Value)) = rvSem ts := by
    funext x; cases x <;> rfl
  have h4 : (fn.results.toList.mapM (fun x : ResultVar => (match x with | .tmp t => pure (ts.getD t undef) | .cell a t => do loadVar t (← asAddr (ts.getD a undef)) : Sem Value))).run P w = .ok cs w := by
    rw [e]; exact h3
  have h5 := congrArg (fun q => (q.andThen fun a w' => Result.ok a.toArray w').andThen fun a w' => (pure (if h : a.size = 1 then a[0] else Value.tuple a) : Sem Value).run P w') h4
  simp only [Sem.run_bind, Sem.run_map]
  exact h5

theorem callF_ok {D : DrawEv} {S : SumEv} (hS : SumOK P S) (hD : DrawOK P D) (hO : CallsOK P O) (hL : LoopsOK P O) (hG : CodesOK P O) (keep : Nat → Nat → Option (List Nat)) {f : FuncId} {args : List Value} {h : AH} {r : Value × AH} (hk : callF P D S O keep f args h = some r) : CallOK P f args h r := by
  intro φ w cs hr hargs
  unfold callF at hk
  split at hk
  · cases hk
  · rename_i fn hf
    split at hk
    · cases hk
    · rename_i c hb
      cases hle : Nat.ble args.length fn.ntmps with
      | false => rw [hle, cond_false] at hk; cases hk
      | true =>
        rw [hle, cond_true] at hk
        have hle' := Nat.le_of_ble_eq_true hle
        have hl := hargs.length
        suffices hw : c.wp P (bodyPostD P fn fun e w' => ∃ φ' c, e = Ending.returned c ∧ Good φ w r.2 w' φ' ∧ VR φ' r.1 c) { tmps := cs.toArray ++ Array.replicate (fn.ntmps - cs.toArray.size) undef, defers := [] } w from
          ⟨calls_of_wp_defers hf hb hw, fun _ => callsD_of_wp_defers hf hb hw⟩
        refine evC_wp hS hD hO hL hG (keep f) c _ h _ r hk φ w _ hr ?_ _ bodyPostD_closed fun ex φ' tm' h' a' w' g t d k => ?_
        · refine ⟨by simp; omega, fun t v hv => ?_⟩
          rw [argsT_get] at hv
          simp only [Nat.zero_le, if_true, Nat.sub_zero] at hv
          obtain ⟨c', h1, h2⟩ := hargs.get t v hv
          refine ⟨c', ?_, h2⟩
          have hlt : t < cs.length := by
            rcases Nat.lt_or_ge t cs.length with h' | h'
            · exact h'
            · rw [List.getElem?_eq_none h'] at h1; cases h1
          simp only []
          rw [Array.getElem?_append_left (by simpa using hlt)]
          simpa using h1
        · have key : (resv P tm' h' fn.results.toList fun vs => some (one vs, endH (endOf (keep f 1000000) h.n) h')) = some r → Leaves P fn a'.tmps (fun e w' => ∃ φ' c, e = Ending.returned c ∧ Good φ w r.2 w' φ' ∧ VR φ' r.1 c) a'.defers .returning w' := by
            intro hk
            obtain ⟨vs, c', h1, h2, h3⟩ := results_run g.rel t hk
            obtain rfl := Option.some.inj h2
            rw [d]
            exact ⟨c', h3, φ', c', rfl, g.endH _, h1⟩
          cases ex with
          | normal => exact key k
          | ret => exact key k
          | exit i => cases k

def OvOK (P : Program) (ov : Over) : Prop := ∀ f args h r, ov f args h = some r → CallOK P f args h r
theorem noOv_ok (P : Program) : OvOK P noOv := fun _ _ _ _ h => by cases h

theorem ev_ok {D : DrawEv} {S : SumEv} {ov : Over} (hV : OvOK P ov) (hS : SumOK P S) (hD : DrawOK P D) (keep : Nat → Nat → Option (List Nat)) : ∀ n, CallsOK P (ev P D S ov keep n) ∧ LoopsOK P (ev P D S ov keep n) ∧ CodesOK P (ev P D S ov keep n) := by
  intro n
  induction n using Nat.strongRecOn with
  | _ n ih =>
    cases n with
    | zero => exact ⟨fun _ _ _ _ h => by simp [ev] at h, fun _ _ _ _ _ _ _ h => by simp [ev] at h, fun _ _ _ _ _ _ _ h => by simp [ev] at h⟩
    | succ n =>
      obtain ⟨hO, hL, hG⟩ := ih n (Nat.lt_succ_self n)
      refine ⟨fun f args h r hk => ?_, ?_, fun nt kp c tm h K r hk => evC_wp hS hD hO hL hG kp c tm h K r hk⟩
      · simp only [ev] at hk
        cases hv : ov f args h with
        | some x => rw [hv] at hk; exact hV f args h r (hv.trans hk)
        | none => rw [hv] at hk; exact callF_ok hS hD hO hL hG keep hk
      intro nt kp b tm h K r hk φ w a hr ht Q hC hQ
      -- the loop: by the least number of rounds that is enough
      let J : Nat → Act → World → Prop := fun m a' w' => m ≤ n + 1 ∧ ∃ φ' tm' h', Good φ w h' w' φ' ∧ TR φ' tm' nt a'.tmps ∧ a'.defers = a.defers ∧ (ev P D S ov keep m).loop nt kp b tm' h' K = some r
      have hJ : J (n + 1) a w := ⟨Nat.le_refl _, φ, tm, h, .refl hr, ht, rfl, hk⟩
      classical
      let μ : Act → World → Nat := fun a' w' => if hx : ∃ m, J m a' w' then least (fun m => J m a' w') hx else 0
      refine wp_loop (fun a' w' => ∃ m, J m a' w') μ ⟨_, hJ⟩ fun a1 w1 hI => ?_
      have hμ : J (μ a1 w1) a1 w1 := by
        show J (if hx : ∃ m, J m a1 w1 then least (fun m => J m a1 w1) hx else 0) a1 w1
        rw [dif_pos hI]
        exact least_spec (fun m => J m a1 w1) hI
      obtain ⟨hmle, φ1, tm1, h1, g1, t1, d1, k1⟩ := hμ
      generalize hm : μ a1 w1 = m at *
      cases m with
      | zero => simp [ev] at k1
      | succ m =>
        obtain ⟨hO', hL', hG'⟩ := ih m (by omega)
        simp only [ev] at k1
        refine evC_wp hS hD hO' hL' hG' kp b tm1 h1 _ r k1 φ1 w1 a1 g1.rel t1 _ hC fun ex φ2 tm2 h2 a2 w2 g2 t2 d2 k2 => ?_
        cases ex with
        | normal =>
          have hJ2 : J m a2 w2 := ⟨by omega, φ2, _, h2, g1.trans g2, t2.scrubO _, d2.trans d1, k2⟩
          refine ⟨⟨m, hJ2⟩, ?_⟩
          show (if hx : ∃ m, J m a2 w2 then least (fun m => J m a2 w2) hx else 0) < m + 1
          rw [dif_pos ⟨m, hJ2⟩]
          exact Nat.lt_succ_of_le (least_le (fun m => J m a2 w2) ⟨m, hJ2⟩ hJ2)
        | exit i => exact hQ (.exit i) φ2 tm2 h2 a2 w2 (g1.trans g2) t2 (d2.trans d1) k2
        | ret => exact hQ .ret φ2 tm2 h2 a2 w2 (g1.trans g2) t2 (d2.trans d1) k2
end
end Go.Lg

namespace Go.Lg
open Go

def isPure : Op → Bool
  | .move _ | .assign _ | .pick .. | .nilCheck _ | .binOp .. | .unOp .. | .convert .. | .makeInterface .. | .makeFunc .. | .fieldAddr .. | .field .. | .indexAddr .. | .index .. | .extract .. | .build .. => true
  | _ => false
def isRead : Op → Bool
  | .load .. | .slice .. | .lookup .. => true
  | .call c => match c.callee with
    | .builtin .len | .builtin .min | .builtin .max => true
    | _ => false
  | _ => false

/-- what an operation comes to, whoever asks -/
def Runs (P : Program) (O : Orc) (tm : T Value) (op : Op) (h : AH) (v : Option Value) (h' : AH) : Prop := ∀ K : Option Value → AH → Res, evOp P O tm op h K = K v h'

theorem nat_ldCK (h : AH) (c : CK) (b o : Nat) : Nat1 (ldCK h c b o) := by
  cases c <;> (unfold ldCK; exact Nat1.bindO _ _ fun _ => Nat1.pure _)
theorem nat_ldN (h : AH) : ∀ (cs : List CK) (b o : Nat), Nat1 (ldN h cs b o)
  | [], _, _ => Nat1.pure _
  | c :: cs, b, o => by
    show Nat1 (fun K => ldN h (c :: cs) b o K)
    simp only [ldN]
    exact Nat1.then (nat_ldCK h c b o) fun v => Nat1.map (nat_ldN h cs b (o + 1)) (v :: ·)
theorem nat_ldT (P : Program) (h : AH) (t : TypeId) (b o : Nat) : Nat1 (ldT P h t b o) := by
  show Nat1 (fun K => ldT P h t b o K)
  unfold ldT
  split
  · exact Nat1.map (nat_ldN h _ b o) (fun vs => Value.agg vs.toArray)
  · exact nat_ldCK h _ b o
  · exact Nat1.none
theorem nat_addrK {α : Type} (v : Value) {f : Addr → (α → Res) → Res} (hf : ∀ a, Nat1 (f a)) : Nat1 (fun K => addrK v fun a => f a K) := by
  unfold addrK
  cases v <;> first
    | exact Nat1.bindO _ _ hf
    | exact Nat1.none

theorem nat_castCK (c : CK) (v : Value) : Nat1 (castCK c v) := by
  cases c <;> first
    | exact Nat1.bindO _ _ fun _ => Nat1.pure _
    | exact Nat1.pure v
theorem nat_castN : ∀ (cs : List CK) (l : List Value), Nat1 (castN cs l)
  | [], l => Nat1.cond _ (Nat1.pure _) Nat1.none
  | c :: cs, l => by
    show Nat1 (fun K => castN (c :: cs) l K)
    simp only [castN]
    exact Nat1.bindO _ _ fun p => Nat1.then (nat_castCK c p.1) fun v => Nat1.map (nat_castN cs p.2) (v :: ·)
theorem nat_castT (P : Program) (t : TypeId) (v : Value) : Nat1 (castT P t v) := by
  show Nat1 (fun K => castT P t v K)
  unfold castT
  split
  · exact Nat1.bindO _ _ fun l => Nat1.map (nat_castN _ l) (fun vs => Value.agg vs.toArray)
  · exact nat_castCK _ v
  · exact Nat1.none
theorem nat_castX (P : Program) (t : TypeId) (v : Value) : Nat1 (castX P t v) := by
  show Nat1 (fun K => castX P t v K)
  unfold castX
  split
  · exact Nat1.bindO _ _ fun l => Nat1.map (nat_castN _ l) (fun vs => Value.agg vs.toArray)
  · exact nat_castCK _ v
  · exact Nat1.pure v
theorem nat_castTs (P : Program) : ∀ (ts : List TypeId) (l : List Value), Nat1 (castTs P ts l)
  | [], l => Nat1.cond _ (Nat1.pure _) Nat1.none
  | t :: ts, l => by
    show Nat1 (fun K => castTs P (t :: ts) l K)
    simp only [castTs]
    exact Nat1.bindO _ _ fun p => Nat1.then (nat_castT P t p.1) fun v => Nat1.map (nat_castTs P ts p.2) (v :: ·)
theorem nat_castR (P : Program) (ts : List TypeId) (v : Value) : Nat1 (castR P ts v) := by
  show Nat1 (fun K => castR P ts v K)
  unfold castR
  split
  · exact nat_castT P _ v
  · exact Nat1.bindO _ _ fun l => Nat1.map (nat_castTs P _ l) (fun vs => Value.tuple vs.toArray)

theorem nat_builtin (P : Program) (tm : T Value) (b : Builtin) (ats : List TypeId) (as : List Operand) (h : AH) : Nat2 (evBuiltin P tm b ats as h) := by
  show Nat1 (fun K => evBuiltin P tm b ats as h fun a h => K (a, h))
  unfold evBuiltin
  split
  · split
    · exact Nat1.bindO _ _ fun r => Nat1.map (nat_castCK _ r.1) (fun v => (v, r.2))
    · exact Nat1.none
  · split
    · exact Nat1.pure _
    · exact Nat1.pure _
    · exact Nat1.bindO _ _ fun _ => Nat1.pure _
    · exact Nat1.none
  · split
    · exact Nat1.pure _
    · exact Nat1.none
  · split
    · exact Nat1.pure _
    · exact Nat1.none
  · exact Nat1.bindO _ _ fun _ => Nat1.bindO _ _ fun _ => Nat1.bindO _ _ fun _ => Nat1.bindO _ _ fun _ => Nat1.pure _
  · split
    · exact Nat1.bindO _ _ fun _ => Nat1.bindO _ _ fun _ => Nat1.pure _
    · exact Nat1.none
  · exact Nat1.none

set_option maxHeartbeats 1000000 in
theorem nat_op (P : Program) (O : Orc) (tm : T Value) (op : Op) (h : AH) : Nat2 (evOp P O tm op h) := by
  show Nat1 (fun K => evOp P O tm op h fun a h => K (a, h))
  unfold evOp
  split
  case h_1 => exact Nat1.bindO _ _ fun _ => Nat1.pure _
  case h_2 => exact Nat1.bindO _ _ fun _ => Nat1.pure _
  all_goals first
    | exact Nat1.none
    | exact Nat1.bindO _ _ fun _ => Nat1.pure _
    | exact Nat1.bindO _ _ fun _ => Nat1.bindO _ _ fun _ => Nat1.pure _
    | exact Nat1.bindO _ _ fun _ => Nat1.bindO _ _ fun _ => Nat1.bindO _ _ fun _ => Nat1.pure _
    | exact Nat1.bindO _ _ fun _ => Nat1.bindO _ _ fun _ => Nat1.bindO _ _ fun _ => Nat1.bindO _ _ fun _ => Nat1.pure _
    | exact Nat1.bindO _ _ fun _ => Nat1.cond _ (Nat1.pure _) Nat1.none
    | exact Nat1.bindO _ _ fun _ => Nat1.bindO _ _ fun _ => Nat1.cond _ (Nat1.bindO _ _ fun _ => Nat1.pure _) Nat1.none
    | exact Nat1.bindO _ _ fun _ => Nat1.bindO _ _ fun _ => Nat1.bindO _ _ fun _ => Nat1.bindO _ _ fun _ => Nat1.bindO _ _ fun _ => Nat1.pure _
    | exact Nat1.bindO _ _ fun _ => Nat1.bindO _ _ fun _ => Nat1.bindO _ _ fun ty => Nat1.bindO _ _ fun _ => Nat1.bindO _ _ fun p => Nat1.map (nat_castT P ty.2 p.1) (fun v => (some (cond _ (.tuple #[v, .bool p.2]) v), h))
    | exact Nat1.bindO _ _ fun _ => nat_addrK _ fun _ => Nat1.bindO _ _ fun _ => Nat1.bindO _ _ fun _ => Nat1.cond _ Nat1.none (Nat1.pure _)
    | exact Nat1.bindO _ _ fun _ => nat_addrK _ fun _ => Nat1.bindO _ _ fun _ => Nat1.bindO _ _ fun _ => Nat1.cond _ (Nat1.bindO _ _ fun _ => Nat1.pure _) Nat1.none
    | exact Nat1.bindO _ _ fun _ => nat_addrK _ fun a => Nat1.map (nat_ldT P h _ a.block a.off) (fun v => (some v, h))
    | exact Nat1.bindO _ _ fun _ => Nat1.bindO _ _ fun _ => Nat1.bindO _ _ fun _ => Nat1.bindO _ _ fun _ => Nat1.bindO _ _ fun r => Nat1.map (nat_castCK _ r.1) (fun v => (some v, h))
    | (split <;> first
        | exact Nat1.none
        | exact Nat1.pure _
        | exact Nat1.bindO _ _ fun _ => Nat1.cond _ (Nat1.bindO _ _ fun u => Nat1.map (nat_castT P _ u) (fun v => (some v, h))) Nat1.none
        | exact Nat1.bindO _ _ fun _ => Nat1.pure _
        | exact Nat1.bindO _ _ fun _ => Nat1.bindO _ _ fun _ => Nat1.pure _
        | exact Nat1.cond _ (Nat1.bindO _ _ fun _ => Nat1.pure _) (Nat1.bindO _ _ fun _ => Nat1.pure _)
        | exact Nat1.cond _ (Nat1.bindO _ _ fun _ => Nat1.pure _) Nat1.none
        | exact Nat1.bindO _ _ fun _ => Nat1.bindO _ _ fun _ => Nat1.cond _ (Nat1.pure _) Nat1.none
        | exact Nat1.bindO _ _ fun _ => Nat1.cond _ (Nat1.bindO _ _ fun _ => Nat1.pure _) Nat1.none
        | exact Nat1.bindO _ _ fun _ => Nat1.bindO _ _ fun _ => Nat1.bindO _ _ fun _ => Nat1.cond _ (Nat1.bindO _ _ fun _ => Nat1.cond _ (Nat1.pure _) Nat1.none) Nat1.none
        | (split <;> first | exact Nat1.none | exact Nat1.pure _)
        | exact Nat1.map (nat_builtin P tm _ _ _ h) (fun p => (some p.1, p.2))
        | exact Nat1.bindO _ _ fun _ => Nat1.bindO _ _ fun _ => Nat1.cond _ (Nat1.bindO _ _ fun r => Nat1.pure (some r.1, r.2)) Nat1.none)
    | (refine Nat1.bindO _ _ fun _ => ?_
       split <;> first
        | exact Nat1.none
        | exact Nat1.bindO _ _ fun _ => Nat1.pure _
        | exact Nat1.bindO _ _ fun _ => Nat1.bindO _ _ fun _ => Nat1.pure _)

theorem nat_binX (P : Program) (op : BinOp) (t : TypeId) (c : Bool) (a b : Value) : Nat1 (binX P op t c a b) := by
  show Nat1 (fun K => binX P op t c a b K)
  unfold binX
  split
  · exact Nat1.bindO _ _ fun _ => Nat1.pure _
  · exact Nat1.cond _ (Nat1.bindO _ _ fun _ => Nat1.pure _) Nat1.none
theorem nat_opX (P : Program) (O : Orc) (tm : T Value) (ty : TypeId) (op : Op) (h : AH) : Nat2 (evOpX P O tm ty op h) := by
  have old : ∀ op, Nat2 (evOp P O tm op h) := fun op => nat_op P O tm op h
  show Nat1 (fun K => evOpX P O tm ty op h fun a h => K (a, h))
  unfold evOpX
  simp only [fillK_eq]
  split
  · exact Nat1.bindO _ _ fun _ => Nat1.cond _ (Nat1.pure _) Nat1.none
  · exact Nat1.bindO _ _ fun _ => Nat1.bindO _ _ fun _ => Nat1.bindO _ _ fun _ => Nat1.bindO _ _ fun _ => Nat1.pure _
  · split
    · exact Nat1.bindO _ _ fun _ => Nat1.bindO _ _ fun _ => Nat1.bindO _ _ fun _ => Nat1.cond _ (Nat1.bindO _ _ fun _ => Nat1.cond _ (Nat1.pure _) Nat1.none) Nat1.none
    · exact Nat1.none
  · exact Nat1.bindO _ _ fun _ => nat_addrK _ fun _ => Nat1.bindO _ _ fun _ => Nat1.bindO _ _ fun _ => Nat1.cond _ (Nat1.bindO _ _ fun _ => Nat1.pure _) Nat1.none
  · exact Nat1.bindO _ _ fun a => Nat1.bindO _ _ fun b => Nat1.map (nat_binX P _ _ _ a b) (fun v => (some v, h))
  · split
    · exact old _
    · exact Nat1.bindO _ _ fun _ => Nat1.bindO _ _ fun _ => Nat1.cond _ (Nat1.bindO _ _ fun r => Nat1.map (nat_castR P _ r.1) (fun v => (some v, r.2))) Nat1.none
  · split
    · exact Nat1.bindO _ _ fun v => Nat1.map (nat_castX P _ v) (fun v => (some v, h))
    · exact Nat1.none
  · exact old _
theorem opX_out {P : Program} {O : Orc} {tm : T Value} {ty : TypeId} {op : Op} {h : AH} {K : Option Value → AH → Res} {r : Value × AH} (hk : evOpX P O tm ty op h K = some r) : ∃ v h', K v h' = some r ∧ Runs P O tm op h v h' := by
  classical
  obtain ⟨v, h', h1, h2⟩ := (nat_opX P O tm ty op h).out hk
  have h3 : evOpX P O tm ty op h (fun v2 h2 => if v2 = v ∧ h2 = h' then some r else none) = some r := by rw [h2]; simp
  obtain ⟨v2, h2', h4, h5⟩ := (nat_op P O tm op h).out (evOpX_le h3)
  by_cases hc : v2 = v ∧ h2' = h'
  · obtain ⟨rfl, rfl⟩ := hc
    exact ⟨v2, h2', h1, h5⟩
  · rw [if_neg hc] at h4; cases h4
theorem opX_read {P : Program} {O : Orc} {tm : T Value} {ty : TypeId} {op : Op} (hr : isRead op = true) (h : AH) (K : Option Value → AH → Res) : evOpX P O tm ty op h K = evOp P O tm op h K := by
  cases op with
  | call c =>
    obtain ⟨cl, args, ats⟩ := c
    cases cl with
    | builtin b => rfl
    | _ => simp [isRead] at hr
  | _ => first | rfl | (simp [isRead] at hr)
theorem opX_pure {P : Program} {O : Orc} {tm : T Value} {ty : TypeId} {op : Op} (hp : isPure op = true) (h h2 : AH) (K : Option Value → AH → Res) : evOpX P O tm ty op h K = evOpX P O tm ty op h2 (fun v _ => K v h) := by
  cases op <;> first
    | rfl
    | (simp [isPure] at hp; done)
end Go.Lg

namespace Go.Lg
open Go

theorem pure_shift {P : Program} {O : Orc} {tm : T Value} {op : Op} (hp : isPure op = true) (h h2 : AH) (K : Option Value → AH → Res) : evOp P O tm op h K = evOp P O tm op h2 (fun v _ => K v h) := by
  cases op <;> first
    | rfl
    | (simp [isPure] at hp; done)
theorem read_shift {P : Program} {O : Orc} {tm : T Value} {op : Op} (hp : isRead op = true) (h : AH) (K : Option Value → AH → Res) : evOp P O tm op h K = evOp P O tm op h (fun v _ => K v h) := by
  cases op <;> first
    | (simp [isRead] at hp; done)
    | rfl
    | skip
  case call c =>
    obtain ⟨cl, args, ats⟩ := c
    cases cl with
    | builtin b => cases b <;> first | (simp [isRead] at hp; done) | skip
                   all_goals
                     simp only [evOp]
                     generalize ats.toList = l1
                     generalize args.toList = l2
                     rcases l1 with _ | ⟨t, _ | ⟨_, _⟩⟩ <;> rcases l2 with _ | ⟨x, _ | ⟨y, _ | ⟨_, _⟩⟩⟩ <;> rfl
    | _ => simp [isRead] at hp

theorem Runs.pure {P : Program} {O : Orc} {tm : T Value} {op : Op} {h h' : AH} {v : Option Value} (hp : isPure op = true) (hr : Runs P O tm op h v h') : h' = h ∧ ∀ h2, Runs P O tm op h2 v h2 := by
  refine ⟨heap_of_shift (v := v) fun K => ?_, fun h2 K => ?_⟩
  · rw [← hr K, pure_shift hp h h K, hr]
  · rw [pure_shift hp h2 h K, hr]
theorem Runs.read {P : Program} {O : Orc} {tm : T Value} {op : Op} {h h' : AH} {v : Option Value} (hp : isRead op = true) (hr : Runs P O tm op h v h') : h' = h := by
  refine heap_of_shift (v := v) fun K => ?_
  rw [← hr K, read_shift hp h K, hr]

theorem opvs_congr {tm tm' : T Value} : ∀ {xs : List Operand}, (∀ x ∈ xs, opv tm x = opv tm' x) → opvs tm xs = opvs tm' xs
  | [], _ => rfl
  | x :: xs, h => by
    simp only [opvs]
    rw [h x (by simp), opvs_congr fun y hy => h y (by simp [hy])]
theorem opParts_congr {tm tm' : T Value} : ∀ {xs : List (Nat × Operand)}, (∀ x ∈ xs.map (·.2), opv tm x = opv tm' x) → opParts tm xs = opParts tm' xs
  | [], _ => rfl
  | (i, x) :: xs, h => by
    simp only [opParts]
    rw [h x (by simp), opParts_congr fun y hy => h y (by simp only [List.map_cons, List.mem_cons]; exact .inr hy)]
theorem optv_congr {tm tm' : T Value} {x : Option Operand} (h : ∀ y, x = some y → opv tm y = opv tm' y) : optv tm x = optv tm' x := by
  cases x with
  | none => rfl
  | some y => simp only [optv]; rw [h y rfl]

theorem evOp_congr {P : Program} {O : Orc} {tm tm' : T Value} (op : Op) (hx : ∀ x ∈ op.operands, opv tm x = opv tm' x) (h : AH) (K : Option Value → AH → Res) : evOp P O tm op h K = evOp P O tm' op h K := by
  cases op with
  | build t ps => simp only [evOp]; rw [opParts_congr fun x hm => hx x (by simpa [Op.operands] using hm)]
  | buildSlice t n ps => simp only [evOp]; rw [opParts_congr fun x hm => hx x (by simpa [Op.operands] using hm)]
  | makeFunc fn xs ys =>
    simp only [evOp]
    rw [opvs_congr (xs := xs.toList) fun x hm => hx x (by simp [Op.operands] at hm ⊢; exact .inl hm), opvs_congr (xs := ys.toList) fun x hm => hx x (by simp [Op.operands] at hm ⊢; exact .inr hm)]
  | slice t x lo hi mx =>
    simp only [evOp]
    rw [hx x (by simp [Op.operands]), optv_congr (x := lo) fun y hy => hx y (by subst hy; simp [Op.operands]), optv_congr (x := hi) fun y hy => hx y (by subst hy; simp [Op.operands]),
      optv_congr (x := mx) fun y hy => hx y (by subst hy; simp [Op.operands])]
  | makeMap t x => simp only [evOp]; rw [optv_congr (x := x) fun y hy => hx y (by subst hy; simp [Op.operands])]
  | call c =>
    obtain ⟨cl, args, ats⟩ := c
    have hargs : ∀ x ∈ args.toList, opv tm x = opv tm' x := fun x hm => hx x (by simp [Op.operands, Call.operands]; exact .inr (by simpa using hm))
    have hc : calleeOf P tm cl = calleeOf P tm' cl := by
      cases cl with
      | value f =>
        have := hx f (by simp [Op.operands, Call.operands])
        cases f <;> simp only [calleeOf, this]
      | invoke r n => simp only [calleeOf]; rw [hx r (by simp [Op.operands, Call.operands])]
      | builtin b => rfl
    cases cl with
    | builtin b =>
      simp only [evOp]
      obtain ⟨args⟩ := args
      simp only at hargs ⊢
      unfold evBuiltin
      generalize ats.toList = l1
      rcases args with _ | ⟨x, _ | ⟨y, _ | ⟨z, rest⟩⟩⟩
      · cases b <;> rcases l1 with _ | ⟨_, _ | ⟨_, _ | ⟨_, _⟩⟩⟩ <;> rfl
      · have e := hargs x (by simp)
        cases b <;> rcases l1 with _ | ⟨_, _ | ⟨_, _ | ⟨_, _⟩⟩⟩ <;> first | rfl | simp only [e]
      · have e := hargs x (by simp)
        have e2 := hargs y (by simp)
        cases b <;> rcases l1 with _ | ⟨_, _ | ⟨_, _ | ⟨_, _⟩⟩⟩ <;> first | rfl | simp only [e, e2]
      · cases b <;> rcases l1 with _ | ⟨_, _ | ⟨_, _ | ⟨_, _⟩⟩⟩ <;> rfl
    | value f => simp only [evOp, calleeX_eq]; rw [hc, opvs_congr hargs]
    | invoke r n => simp only [evOp, calleeX_eq]; rw [hc, opvs_congr hargs]
  | _ =>
    simp only [Op.operands, List.mem_toArray, List.mem_cons, List.not_mem_nil, or_false, forall_eq_or_imp, forall_eq] at hx
    simp only [evOp, hx]
end Go.Lg
