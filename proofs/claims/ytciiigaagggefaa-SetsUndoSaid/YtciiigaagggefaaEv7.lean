/- Soundness of the evaluator. Part 7: one operation, but for calls of functions, appends and slices. -/
import Derived.Test.YtciiigaagggefaaEv6
namespace Go.Lg
open Go

def OpOK (P : Program) (φ : Emb) (_h : AH) (w : World) (a : Act) (o : Oper) (K : Option Value → AH → Res) (r : Value × AH) : Prop :=
  ∃ φ' v h' c w', OpRun P a o w c w' ∧ Good φ w h' w' φ' ∧ (∀ x, v = some x → VR φ' x c) ∧ K v h' = some r

theorem OpOK.value {P : Program} {φ : Emb} {h : AH} {w : World} {a : Act} {o : Oper} {K : Option Value → AH → Res} {r : Value × AH} {v c : Value}
    (hr : HRel φ h w) (hrun : (execOp a.eval o).run P w = .ok (.value c) w) (hv : VR φ v c) (hk : K (some v) h = some r) : OpOK P φ h w a o K r :=
  ⟨φ, some v, h, c, w, .inl hrun, .refl hr, fun x hx => by obtain rfl := Option.some.inj hx; exact hv, hk⟩
theorem OpOK.good {P : Program} {φ φ' : Emb} {h h' : AH} {w w' : World} {a : Act} {o : Oper} {K : Option Value → AH → Res} {r : Value × AH} {v c : Value}
    (hrun : (execOp a.eval o).run P w = .ok (.value c) w') (hg : Good φ w h' w' φ') (hv : VR φ' v c) (hk : K (some v) h' = some r) : OpOK P φ h w a o K r :=
  ⟨φ', some v, h', c, w', .inl hrun, hg, fun x hx => by obtain rfl := Option.some.inj hx; exact hv, hk⟩

theorem run_v {P : Program} {s : Sem Value} {w w' : World} {c : Value} (h : s.run P w = .ok c w') : (do pure (Next.value (← s)) : Sem Next).run P w = .ok (.value c) w' := by
  simp [h]

section
variable {P : Program} {φ : Emb} {h : AH} {w : World} {a : Act} {tm : T Value} {nt : Nat} {K : Option Value → AH → Res} {r : Value × AH} {O : Orc}
  {dst : Option Tmp} {ty : TypeId} {pos : String} {after : Array Edge} {guard : Option (Nat × Bool)}

theorem ok_move {x : Operand} (hr : HRel φ h w) (ht : TR φ tm nt a.tmps) (hk : evOp P O tm (.move x) h K = some r) : OpOK P φ h w a ⟨dst, .move x, ty, pos, after, guard⟩ K r := by
  simp only [evOp, Option.bind_eq_some_iff] at hk
  obtain ⟨v, h1, h2⟩ := hk
  exact .value hr rfl (opv_rel ht h1) h2
theorem ok_assign {x : Operand} (hr : HRel φ h w) (ht : TR φ tm nt a.tmps) (hk : evOp P O tm (.assign x) h K = some r) : OpOK P φ h w a ⟨dst, .assign x, ty, pos, after, guard⟩ K r := by
  simp only [evOp, Option.bind_eq_some_iff] at hk
  obtain ⟨v, h1, h2⟩ := hk
  exact .value hr rfl (opv_rel ht h1) h2

theorem ok_pick {c x y : Operand} (hr : HRel φ h w) (ht : TR φ tm nt a.tmps) (hk : evOp P O tm (.pick c x y) h K = some r) : OpOK P φ h w a ⟨dst, .pick c x y, ty, pos, after, guard⟩ K r := by
  simp only [evOp] at hk
  split at hk
  · rename_i t hc
    have hb := vr_bool (opv_rel ht hc)
    cases t with
    | true =>
      simp only [cond_true, Option.bind_eq_some_iff] at hk
      obtain ⟨v, h1, h2⟩ := hk
      exact .value hr (c := a.eval x) (by simp [execOp, hb, asBool]) (opv_rel ht h1) h2
    | false =>
      simp only [cond_false, Option.bind_eq_some_iff] at hk
      obtain ⟨v, h1, h2⟩ := hk
      exact .value hr (c := a.eval y) (by simp [execOp, hb, asBool]) (opv_rel ht h1) h2
  · cases hk

theorem ok_alloc {e : TypeId} (hr : HRel φ h w) (hk : evOp P O tm (.alloc e) h K = some r) : OpOK P φ h w a ⟨dst, .alloc e, ty, pos, after, guard⟩ K r := by
  simp only [evOp, Option.bind_eq_some_iff] at hk
  obtain ⟨z, h1, h2⟩ := hk
  obtain ⟨i, zv, hi, hz, rfl, hsz, hfl⟩ := zeroCellsOf_inv h1
  have hg := push_sound hr (op := false) (esz := zv.cells.toList.length) (el := e) [] (flats_VRs (φ := φ) hfl) (all_flat1_cellOk hfl)
  simp only [List.append_nil, Array.toArray_toList] at hg
  refine .good (c := .pointer (some ⟨w.heap.size, 0, none⟩)) (w' := w.alloc (.cells zv.cells e)) (run_v ?_) hg ?_ h2
  · simp [Instr.alloc, run_zeroValue' hi hz, run_newVar]
  · have := @VR.ptr (grow φ h.n ⟨w.heap.size, 0, zv.cells.toList.length + ([] : List Value).length, zv.cells.toList.length, false⟩) h.n 0 _ (grow_new φ h.n _)
    simpa using this

theorem ok_box {e : TypeId} {x : Operand} (hr : HRel φ h w) (ht : TR φ tm nt a.tmps) (hk : evOp P O tm (.box e x) h K = some r) : OpOK P φ h w a ⟨dst, .box e x, ty, pos, after, guard⟩ K r := by
  simp only [evOp, Option.bind_eq_some_iff] at hk
  obtain ⟨v, h1, h2⟩ := hk
  cases hc : v.cells.toList.all cellOk with
  | false => rw [hc, cond_false] at h2; cases h2
  | true =>
    rw [hc, cond_true] at h2
    have hv := opv_rel ht h1
    have hg := push_sound hr (op := false) (esz := v.cells.toList.length) (el := e) [] hv.cells hc
    simp only [List.append_nil, Array.toArray_toList] at hg
    refine .good (c := .pointer (some ⟨w.heap.size, 0, none⟩)) (run_v ?_) hg ?_ h2
    · simp [Instr.box, run_newVar]
    · have := @VR.ptr (grow φ h.n ⟨w.heap.size, 0, (a.eval x).cells.toList.length + ([] : List Value).length, v.cells.toList.length, false⟩) h.n 0 _ (grow_new φ h.n _)
      simpa using this

theorem ok_build {t : TypeId} {ps : Array (Nat × Operand)} (hr : HRel φ h w) (ht : TR φ tm nt a.tmps) (hk : evOp P O tm (.build t ps) h K = some r) : OpOK P φ h w a ⟨dst, .build t ps, ty, pos, after, guard⟩ K r := by
  simp only [evOp, Option.bind_eq_some_iff] at hk
  obtain ⟨z, h1, vs, h2, pl, h3, cs, h4, h5⟩ := hk
  obtain ⟨i, zv, hi, hz, rfl, hsz, hfl⟩ := zeroCellsOf_inv h1
  have hps := opParts_rel ht h2
  obtain ⟨cs', h6, h7⟩ := fillL_rel pl hps (flats_VRs (φ := φ) hfl) h4
  have hparts : (ps.map fun (i, x) => (i, a.eval x)).toList = ps.toList.map fun p => (p.1, a.eval p.2) := by simp
  have hfill : Instr.fill pl zv.cells (ps.map fun (i, x) => (i, a.eval x)).toList = some cs'.toArray := by
    have := fill_eq pl (ps.map fun (i, x) => (i, a.eval x)).toList zv.cells
    rw [hparts, h6] at this
    rw [hparts]
    cases hf : Instr.fill pl zv.cells (ps.toList.map fun p => (p.1, a.eval p.2)) with
    | none => rw [hf] at this; cases this
    | some ar =>
      rw [hf] at this
      simp only [Option.map_some, Option.some.injEq] at this
      rw [← this]
  refine .value hr (c := .agg cs'.toArray) (run_v ?_) h7.agg h5
  unfold placeOf at h3
  split at h3
  · rename_i fs hd
    simp only [Option.bind_eq_some_iff] at h3
    obtain ⟨l, h8, h9⟩ := h3
    obtain rfl := Option.some.inj h9
    have hm := run_mapM_places (P := P) w h8
    simp only [Instr.build, Sem.run_bind, run_zeroValue' hi hz, Result.andThen_ok, run_underlying' hd, hm]
    have : (fun x : Nat => l.toArray[x]?) = fun i : Nat => l[i]? := by funext x; simp
    rw [this, hfill]
    rfl
  · rename_i n e hd
    simp only [Option.bind_eq_some_iff] at h3
    obtain ⟨n', h8, h9⟩ := h3
    obtain rfl := Option.some.inj h9
    obtain ⟨ie, hie, rfl⟩ := sizeT_inv h8
    simp only [Instr.build, Sem.run_bind, run_zeroValue' hi hz, Result.andThen_ok, run_underlying' hd, run_sizeOf' hie]
    rw [hfill]
    rfl
  · cases h3

theorem ok_buildSlice {t : TypeId} {n : Nat} {ps : Array (Nat × Operand)} (hr : HRel φ h w) (ht : TR φ tm nt a.tmps) (hk : evOp P O tm (.buildSlice t n ps) h K = some r) : OpOK P φ h w a ⟨dst, .buildSlice t n ps, ty, pos, after, guard⟩ K r := by
  simp only [evOp] at hk
  split at hk
  · rename_i e hd
    simp only [Option.bind_eq_some_iff] at hk
    obtain ⟨sz, h1, z, h2, vs, h3, h4⟩ := hk
    cases hc : (Nat.beq z.length sz && Nat.ble (n * sz) 65536 && Nat.blt n opn) with
    | false => rw [hc, cond_false] at h4; cases h4
    | true =>
      rw [hc, cond_true] at h4
      simp only [Bool.and_eq_true] at hc
      have hzs := Nat.eq_of_beq_eq_true hc.1.1
      have hle := Nat.le_of_ble_eq_true hc.1.2
      have hn : n < opn := Nat.le_of_ble_eq_true hc.2
      simp only [Option.bind_eq_some_iff] at h4
      obtain ⟨cs, h5, h6⟩ := h4
      cases hok : cs.all cellOk with
      | false => rw [hok, cond_false] at h6; cases h6
      | true =>
      rw [hok, cond_true] at h6
      obtain ⟨i, zv, hi, hz, rfl, hsz, hfl⟩ := zeroCellsOf_inv h2
      obtain ⟨i', hi', rfl⟩ := sizeT_inv h1
      rw [hi] at hi'
      obtain rfl := Option.some.inj hi'
      have hps := opParts_rel ht h3
      obtain ⟨cs', h7, h8⟩ := fillL_rel _ hps (repL_VRs (flats_VRs (φ := φ) hfl) n) h5
      have hparts : (ps.map fun (i, x) => (i, a.eval x)).toList = ps.toList.map fun p => (p.1, a.eval p.2) := by simp
      have hg := push_sound hr (op := false) (esz := i.size) (el := e) [] h8 hok
      simp only [List.append_nil] at hg
      refine .good (c := .slice (some ⟨w.heap.size, 0, none⟩) n n) (run_v ?_) hg ?_ h6
      · have hfill : ∀ z0 : Array Value, ((Array.range (n * i.size)).map (z0[· % z0.size]!)).toList = repL zv.cells.toList n → Instr.fill (fun j => some (j * i.size, i.size)) ((Array.range (n * i.size)).map (z0[· % z0.size]!)) (ps.map fun (i, x) => (i, a.eval x)).toList = some cs'.toArray := by
          intro z0 hz0
          have := fill_eq (fun j => some (j * i.size, i.size)) (ps.map fun (i, x) => (i, a.eval x)).toList ((Array.range (n * i.size)).map (z0[· % z0.size]!))
          rw [hz0, hparts, h7] at this
          rw [hparts]
          generalize Instr.fill (fun j => some (j * i.size, i.size)) ((Array.range (n * i.size)).map (z0[· % z0.size]!)) (ps.toList.map fun p => (p.1, a.eval p.2)) = q at *
          cases q with
          | none => cases this
          | some ar =>
            simp only [Option.map_some, Option.some.injEq] at this
            rw [← this]
        have h24 : ¬ (n * i.size > 2 ^ 24) := by omega
        by_cases h0 : n * i.size = 0
        · have hrep := repL_length zv.cells.toList n
          rw [hzs, h0] at hrep
          have := hfill #[] (by rw [List.eq_nil_of_length_eq_zero hrep]; simp [h0])
          simp only [Instr.buildSlice, Sem.run_bind, run_underlying' hd, Result.andThen_ok, run_sizeOf' hi, if_neg h24, if_pos h0]
          simp only [Sem.run_bind, Sem.run_pure, Result.andThen_ok, this, newRow, run_newObj]
          rfl
        · have := hfill zv.cells (by rw [← hsz]; exact range_map_repL zv.cells n)
          simp only [Instr.buildSlice, Sem.run_bind, run_underlying' hd, Result.andThen_ok, run_sizeOf' hi, if_neg h24, if_neg h0, run_zeroValue' hi hz]
          simp only [Sem.run_bind, Sem.run_pure, Result.andThen_ok, this, newRow, run_newObj]
          rfl
      · have := @VR.slice (grow φ h.n ⟨w.heap.size, 0, cs'.length + ([] : List Value).length, i.size, false⟩) h.n 0 n n _ (grow_new φ h.n _) hn
        simpa using this
  · cases hk

theorem ok_load {t : TypeId} {x : Operand} (hr : HRel φ h w) (ht : TR φ tm nt a.tmps) (hk : evOp P O tm (.load t x) h K = some r) : OpOK P φ h w a ⟨dst, .load t x, ty, pos, after, guard⟩ K r := by
  simp only [evOp, Option.bind_eq_some_iff] at hk
  obtain ⟨v, h1, h2⟩ := hk
  unfold addrK at h2
  split at h2
  · rename_i p
    simp only [Option.bind_eq_some_iff] at h2
    obtain ⟨ad, h3, h4⟩ := h2
    subst h3
    obtain ⟨t', hφ, hsp, hc⟩ := vr_ptr (opv_rel ht h1)
    obtain ⟨v, c, h5, h6, h7⟩ := ldT_sound hr hφ h4
    refine .value hr (c := c) (run_v ?_) h6 h7
    simp [Instr.loadAt, hc, Instr.sureAddr, h5]
  · cases h2

theorem ok_store {t : TypeId} {x y : Operand} (hr : HRel φ h w) (ht : TR φ tm nt a.tmps) (hk : evOp P O tm (.store t x y) h K = some r) : OpOK P φ h w a ⟨dst, .store t x y, ty, pos, after, guard⟩ K r := by
  simp only [evOp, Option.bind_eq_some_iff] at hk
  obtain ⟨v, h1, h2⟩ := hk
  unfold addrK at h2
  split at h2
  · rename_i p
    simp only [Option.bind_eq_some_iff] at h2
    obtain ⟨ad, h3, u, h4, n, h5, h6⟩ := h2
    subst h3
    cases hc : (Nat.beq u.cells.toList.length n && u.cells.toList.all cellOk) with
    | false => rw [hc, cond_false] at h6; cases h6
    | true =>
      rw [hc, cond_true] at h6
      simp only [Bool.and_eq_true] at hc
      simp only [Option.bind_eq_some_iff] at h6
      obtain ⟨h', h7, h8⟩ := h6
      obtain ⟨t', hφ, hsp, hcp⟩ := vr_ptr (opv_rel ht h1)
      have hu := opv_rel ht h4
      obtain ⟨w', h9, h10⟩ := st_sound (P := P) hr hφ hu.cells hc.2 h7
      obtain ⟨i, hi, rfl⟩ := sizeT_inv h5
      refine ⟨φ, none, h', undef, w', .inr ⟨?_, rfl⟩, h10, by simp, h8⟩
      have hl : (a.eval y).cells.size = i.size := by
        have h11 := Nat.eq_of_beq_eq_true hc.1
        have h12 := hu.cells.length
        simp at h11 h12
        omega
      simp [execOp, Instr.storeAt, hcp, Instr.sureAddr, storeVar, run_sizeOf' hi, hl, h9]
  · cases h2

theorem ok_nilCheck {x : Operand} (hr : HRel φ h w) (ht : TR φ tm nt a.tmps) (hk : evOp P O tm (.nilCheck x) h K = some r) : OpOK P φ h w a ⟨dst, .nilCheck x, ty, pos, after, guard⟩ K r := by
  simp only [evOp, Option.bind_eq_some_iff] at hk
  obtain ⟨v, h1, h2⟩ := hk
  split at h2
  · rename_i p
    simp only [Option.bind_eq_some_iff] at h2
    obtain ⟨ad, h3, h4⟩ := h2
    subst h3
    have hv := opv_rel ht h1
    obtain ⟨t', hφ, hsp, hc⟩ := vr_ptr hv
    refine .value hr (c := a.eval x) ?_ hv h4
    simp [execOp, hc]
  · cases h2

theorem ok_unOp {op : UnOp} {t : TypeId} {x : Operand} (hr : HRel φ h w) (ht : TR φ tm nt a.tmps) (hk : evOp P O tm (.unOp op t x) h K = some r) : OpOK P φ h w a ⟨dst, .unOp op t x, ty, pos, after, guard⟩ K r := by
  simp only [evOp, Option.bind_eq_some_iff] at hk
  obtain ⟨v, h1, u, h2, h3⟩ := hk
  have hv := opv_rel ht h1
  unfold aun at h2
  split at h2
  · rename_i b
    obtain rfl := Option.some.inj h2
    have hc := vr_bool hv
    exact .value hr (c := .bool (!b)) (run_v (by simp [hc, Op.unary])) (.bool _) h3
  · rename_i k n
    obtain rfl := Option.some.inj h2
    have hc := vr_int hv
    exact .value hr (c := .int k (k.wrap (0 - n))) (run_v (by simp [hc, Op.unary, Op.intArith])) (.int _ _) h3
  · cases h2

theorem ok_convert {s d : TypeId} {x : Operand} (hr : HRel φ h w) (ht : TR φ tm nt a.tmps) (hk : evOp P O tm (.convert s d x) h K = some r) : OpOK P φ h w a ⟨dst, .convert s d x, ty, pos, after, guard⟩ K r := by
  simp only [evOp] at hk
  split at hk
  · rename_i ds k k' n hs hd hx
    have hc := vr_int (opv_rel ht hx)
    exact .value hr (c := .int k (k.wrap n)) (run_v (by simp [convert, run_underlying' hs, run_underlying' hd, hc, Conv.intToInt])) (.int _ _) hk
  · rename_i ds s' hs hd hx
    have hc := vr_string (opv_rel ht hx)
    refine .value hr (c := .string s') (run_v ?_) (.string _) hk
    simp only [convert, Sem.run_bind, run_underlying' hs, run_underlying' hd, hc, Result.andThen_ok]
    cases ds <;> rfl
  · cases hk

theorem ok_makeInterface {t : TypeId} {x : Operand} (hr : HRel φ h w) (ht : TR φ tm nt a.tmps) (hk : evOp P O tm (.makeInterface t x) h K = some r) : OpOK P φ h w a ⟨dst, .makeInterface t x, ty, pos, after, guard⟩ K r := by
  simp only [evOp] at hk
  split at hk
  · rename_i d v hd hx
    split at hk
    · cases hk
    · rename_i hni
      refine .value hr (c := .iface t (a.eval x)) (run_v ?_) (.iface (opv_rel ht hx)) hk
      simp only [Instr.makeInterface, Sem.run_bind, run_underlying' hd, Result.andThen_ok, Sem.run_pure]
  · cases hk

theorem ok_makeFunc {fn : Fn} {xs ys : Array Operand} (hr : HRel φ h w) (ht : TR φ tm nt a.tmps) (hk : evOp P O tm (.makeFunc fn xs ys) h K = some r) : OpOK P φ h w a ⟨dst, .makeFunc fn xs ys, ty, pos, after, guard⟩ K r := by
  simp only [evOp] at hk
  split at hk
  · rename_i f
    simp only [Option.bind_eq_some_iff] at hk
    obtain ⟨vs, h1, ws, h2, h3⟩ := hk
    have r1 := opvs_rel ht h1
    have r2 := opvs_rel ht h2
    refine .value hr (c := .func (.func f) (xs.map a.eval) (ys.map a.eval)) (run_v rfl) (.func ?_ ?_ ?_ ?_) h3
    · simpa using r1.length
    · intro i v v' g1 g2; exact r1.get2 i v v' (by simpa using g1) (by simpa using g2)
    · simpa using r2.length
    · intro i v v' g1 g2; exact r2.get2 i v v' (by simpa using g1) (by simpa using g2)
  · cases hk

theorem ok_makeSlice {t : TypeId} {x y : Operand} (hr : HRel φ h w) (ht : TR φ tm nt a.tmps) (hk : evOp P O tm (.makeSlice t x y) h K = some r) : OpOK P φ h w a ⟨dst, .makeSlice t x y, ty, pos, after, guard⟩ K r := by
  simp only [evOp] at hk
  split at hk
  · rename_i e l c hd hx hy
    simp only [Option.bind_eq_some_iff] at hk
    obtain ⟨i, hi, z, hz0, hk⟩ := hk
    cases hc : (decide (0 ≤ l) && decide (l ≤ c) && decide (c * i.bytes ≤ 281474976710656) && decide (c ≤ 281474976710656)) with
    | false => rw [hc, cond_false] at hk; cases hk
    | true =>
      rw [hc, cond_true] at hk
      simp only [Bool.and_eq_true, decide_eq_true_eq] at hc
      obtain ⟨⟨⟨c1, c2⟩, c3⟩, c4⟩ := hc
      obtain ⟨i', zv, hi', hz, rfl, hsz, hfl⟩ := zeroCellsOf_inv hz0
      rw [hi] at hi'
      obtain rfl := Option.some.inj hi'
      have e1 := vr_int (opv_rel ht hx)
      have e2 := vr_int (opv_rel ht hy)
      have hg := push_sound hr (op := false) (esz := i.size) (el := e) [] (repL_VRs (flats_VRs (φ := φ) hfl) c.toNat) (repL_all (all_flat1_cellOk hfl) c.toNat)
      simp only [List.append_nil] at hg
      refine .good (c := .slice (some ⟨w.heap.size, 0, none⟩) l.toNat c.toNat) (run_v ?_) hg ?_ hk
      · have wl : IntKind.i64.wrap l = l := by simp [IntKind.wrap, IntKind.bits, IntKind.signed]; omega
        have wc : IntKind.i64.wrap c = c := by simp [IntKind.wrap, IntKind.bits, IntKind.signed]; omega
        have hby : ((i.bytes : Int) * c) ≤ 281474976710656 := by rw [Int.mul_comm]; omega
        have hnl : ¬ (l < 0) := by omega
        have hnc : ¬ (c < 0) := by omega
        have hlc : ¬ (l > c) := by omega
        have hbig : ¬ ((i.bytes : Int) * c > 281474976710656) := by omega
        have hz0 : ∀ z0 : Array Value, (c.toNat * i.size = 0 ∨ z0 = zv.cells) → ((Array.range (c.toNat * i.size)).map (z0[· % z0.size]!)) = (repL zv.cells.toList c.toNat).toArray := by
          intro z0 h0
          apply Array.ext'
          rcases h0 with h0 | h0
          · have := repL_length zv.cells.toList c.toNat
            rw [show zv.cells.toList.length = i.size from by simpa using hsz, h0] at this
            rw [List.eq_nil_of_length_eq_zero this]
            simp [h0]
          · subst h0
            rw [← hsz]
            exact range_map_repL zv.cells c.toNat
        have hcond : ¬ ((decide (c < 0) || decide ((i.bytes : Int) * c > 2 ^ 48)) || decide (l < 0) || decide (l > c)) = true := by
          simp only [Bool.or_eq_true, decide_eq_true_eq, not_or]
          exact ⟨⟨⟨hnc, by simpa using hbig⟩, hnl⟩, hlc⟩
        simp only [Instr.makeSlice, Sem.run_bind, run_underlying' hd, Result.andThen_ok, e1, e2, asInt, asIntOf, Sem.run_pure, run_typeInfo' hi, wl, wc]
        rw [if_neg hcond]
        simp only [Sem.run_bind, run_askRoom, Result.andThen_ok, run_sizeOf' hi]
        by_cases h0 : c.toNat * i.size = 0
        · rw [if_pos h0]
          simp only [Sem.run_bind, Sem.run_pure, Result.andThen_ok, hz0 #[] (.inl h0), newRow, run_newObj]
          rfl
        · rw [if_neg h0]
          simp only [Sem.run_bind, Sem.run_pure, Result.andThen_ok, run_zeroValue' hi hz, hz0 zv.cells (.inr rfl), newRow, run_newObj]
          rfl
      · have := @VR.slice (grow φ h.n ⟨w.heap.size, 0, (repL zv.cells.toList c.toNat).length + ([] : List Value).length, i.size, false⟩) h.n 0 l.toNat c.toNat _ (grow_new φ h.n _) (by unfold opn; omega)
        simpa using this
  · cases hk

theorem fieldOf_inv {t : TypeId} {f : Nat} {fd : Field} (h : fieldOf P t f = some fd) : ∃ fs, P.underlying t = some (.struct fs) ∧ fs[f]? = some fd := by
  unfold fieldOf at h
  split at h
  · rename_i fs hd; exact ⟨fs, hd, by simpa using h⟩
  · cases h

theorem ok_fieldAddr {t : TypeId} {x : Operand} {f : Nat} (hr : HRel φ h w) (ht : TR φ tm nt a.tmps) (hk : evOp P O tm (.fieldAddr t x f) h K = some r) : OpOK P φ h w a ⟨dst, .fieldAddr t x f, ty, pos, after, guard⟩ K r := by
  simp only [evOp, Option.bind_eq_some_iff] at hk
  obtain ⟨v, h1, h2⟩ := hk
  unfold addrK at h2
  split at h2
  · rename_i p
    simp only [Option.bind_eq_some_iff] at h2
    obtain ⟨ad, h3, fd, h4, n, h5, h6⟩ := h2
    subst h3
    cases hn : Nat.beq n 0 with
    | true => rw [hn, cond_true] at h6; cases h6
    | false =>
      rw [hn, cond_false] at h6
      obtain ⟨fs, hd, hf⟩ := fieldOf_inv h4
      obtain ⟨i, hi, rfl⟩ := sizeT_inv h5
      obtain ⟨t', hφ, hsp, hc⟩ := vr_ptr (opv_rel ht h1)
      have hne : i.size ≠ 0 := fun e => by rw [e] at hn; cases hn
      refine .value hr (c := .pointer (some ⟨t'.blk, t'.sh + ad.off + fd.offset, none⟩)) (run_v ?_) ?_ h6
      · simp [Instr.fieldAt, run_underlying' hd, hf, hc, Instr.sureAddr, fieldPlace, run_sizeOf' hi, hne, add_lit]
      · have := @VR.ptr φ ad.block (ad.off + fd.offset) t' hφ
        rw [Nat.add_assoc]; exact this
  · cases h2

theorem apart_rel {t : TypeId} {cs ds : List Value} {o : Nat} {v : Value} (hv : VRs φ cs ds) (h : apart P t cs o = some v) : ∃ c, (part t ds.toArray o).run P w = .ok c w ∧ VR φ v c := by
  unfold apart at h
  split at h
  · rename_i d n hd hs
    obtain ⟨i, hi, rfl⟩ := sizeT_inv hs
    cases ha : isAggD d with
    | true =>
      rw [ha, cond_true] at h
      cases hle : Nat.ble (o + i.size) cs.length with
      | false => rw [hle, cond_false] at h; cases h
      | true =>
        rw [hle, cond_true] at h
        obtain rfl := Option.some.inj h
        have h1 := Nat.le_of_ble_eq_true hle
        refine ⟨.agg ((ds.drop o).take i.size).toArray, ?_, ((hv.drop o).take i.size).agg⟩
        simp only [part, Sem.run_bind, run_isAgg hd, ha, Result.andThen_ok, if_true, run_sizeOf' hi, Sem.run_pure]
        congr 2
        apply Array.ext'
        simp [List.extract_eq_take_drop]
    | false =>
      rw [ha, cond_false] at h
      obtain ⟨c, h1, h2⟩ := hv.get o v h
      refine ⟨c, ?_, h2⟩
      simp [part, run_isAgg hd, ha, h1]
  · cases h

theorem ok_field {t : TypeId} {x : Operand} {f : Nat} (hr : HRel φ h w) (ht : TR φ tm nt a.tmps) (hk : evOp P O tm (.field t x f) h K = some r) : OpOK P φ h w a ⟨dst, .field t x f, ty, pos, after, guard⟩ K r := by
  simp only [evOp, Option.bind_eq_some_iff] at hk
  obtain ⟨v, h1, h2⟩ := hk
  split at h2
  · rename_i cs
    simp only [Option.bind_eq_some_iff] at h2
    obtain ⟨fd, h3, u, h4, h5⟩ := h2
    obtain ⟨fs, hd, hf⟩ := fieldOf_inv h3
    obtain ⟨ds, hc, hv⟩ := vr_agg (opv_rel ht h1)
    obtain ⟨c, h6, h7⟩ := apart_rel (P := P) (w := w) hv h4
    refine .value hr (c := c) (run_v ?_) h7 h5
    simp only [Array.toArray_toList] at h6
    simp [Instr.field, run_underlying' hd, hf, hc, asAgg, h6]
  · cases h2

theorem inB_iff {i : Int} {n : Nat} : inB i n = true ↔ 0 ≤ i ∧ i < n := by simp [inB]
theorem inBe_iff {i : Int} {n : Nat} : inBe i n = true ↔ 0 ≤ i ∧ i ≤ n := by simp [inBe]

theorem ok_indexAddr {t : TypeId} {x y : Operand} (hr : HRel φ h w) (ht : TR φ tm nt a.tmps) (hk : evOp P O tm (.indexAddr t x y) h K = some r) : OpOK P φ h w a ⟨dst, .indexAddr t x y, ty, pos, after, guard⟩ K r := by
  simp only [evOp] at hk
  split at hk
  · rename_i len e p k i hd hx hy
    simp only [Option.bind_eq_some_iff] at hk
    obtain ⟨ad, rfl, sz, h2, h3⟩ := hk
    cases hb : inB i len with
    | false => rw [hb, cond_false] at h3; cases h3
    | true =>
      rw [hb, cond_true] at h3
      obtain ⟨ie, hie, rfl⟩ := sizeT_inv h2
      obtain ⟨t', hφ, hsp, hc⟩ := vr_ptr (opv_rel ht hx)
      have hci := vr_int (opv_rel ht hy)
      refine .value hr (c := .pointer (some ⟨t'.blk, t'.sh + ad.off + i.toNat * ie.size, none⟩)) (run_v ?_) ?_ h3
      · have := inB_iff.1 hb
        simp [Instr.indexAt, run_underlying' hd, hc, hci, asIntOf, Instr.sureAddr, run_sizeOf' hie, this, add_lit]
      · have := @VR.ptr φ ad.block (ad.off + i.toNat * ie.size) t' hφ
        rw [Nat.add_assoc]; exact this
  · rename_i e p len cp k i hd hx hy
    simp only [Option.bind_eq_some_iff] at hk
    obtain ⟨ad, rfl, sz, h2, h3⟩ := hk
    cases hb : inB i len with
    | false => rw [hb, cond_false] at h3; cases h3
    | true =>
      rw [hb, cond_true] at h3
      have hbb := inB_iff.1 hb
      obtain ⟨ie, hie, rfl⟩ := sizeT_inv h2
      have hci := vr_int (opv_rel ht hy)
      have hv := opv_rel ht hx
      obtain ⟨t', cp', hφ, hc⟩ : ∃ t' cp', φ ad.block = some t' ∧ a.eval x = .slice (some ⟨t'.blk, t'.sh + ad.off, none⟩) len cp' := by
        generalize a.eval x = q at hv
        cases hv with
        | slice h1 h2 => exact ⟨_, _, h1, rfl⟩
        | sliceO h1 h2 h3 => exact ⟨_, _, h1, rfl⟩
        | sliceE h1 h2 => omega
        | sliceZ h1 => omega
        | sliceV h1 h2 => omega
      refine .value hr (c := .pointer (some ⟨t'.blk, t'.sh + ad.off + i.toNat * ie.size, none⟩)) (run_v ?_) ?_ h3
      · simp [Instr.indexAt, run_underlying' hd, hc, hci, asIntOf, run_sizeOf' hie, hbb, add_lit]
      · have := @VR.ptr φ ad.block (ad.off + i.toNat * ie.size) t' hφ
        rw [Nat.add_assoc]; exact this
  · cases hk

theorem ok_index {t : TypeId} {x y : Operand} (hr : HRel φ h w) (ht : TR φ tm nt a.tmps) (hk : evOp P O tm (.index t x y) h K = some r) : OpOK P φ h w a ⟨dst, .index t x y, ty, pos, after, guard⟩ K r := by
  simp only [evOp] at hk
  split at hk
  · rename_i len e cs k i hd hx hy
    simp only [Option.bind_eq_some_iff] at hk
    obtain ⟨sz, h2, h3⟩ := hk
    cases hb : inB i len with
    | false => rw [hb, cond_false] at h3; cases h3
    | true =>
      rw [hb, cond_true] at h3
      simp only [Option.bind_eq_some_iff] at h3
      obtain ⟨u, h4, h5⟩ := h3
      obtain ⟨ie, hie, rfl⟩ := sizeT_inv h2
      have hci := vr_int (opv_rel ht hy)
      obtain ⟨ds, hc, hv⟩ := vr_agg (opv_rel ht hx)
      obtain ⟨c, h6, h7⟩ := apart_rel (P := P) (w := w) hv h4
      refine .value hr (c := c) (run_v ?_) h7 h5
      have := inB_iff.1 hb
      simp only [Array.toArray_toList] at h6
      simp [Instr.index, run_underlying' hd, hc, hci, asIntOf, run_sizeOf' hie, this, h6]
  · rename_i s k i hd hx hy
    cases hb : decide (0 ≤ i) with
    | false => rw [hb, cond_false] at hk; cases hk
    | true =>
      rw [hb, cond_true] at hk
      simp only [Option.bind_eq_some_iff] at hk
      obtain ⟨b, h4, h5⟩ := hk
      have hci := vr_int (opv_rel ht hy)
      have hcs := vr_string (opv_rel ht hx)
      have h0 : 0 ≤ i := of_decide_eq_true hb
      refine .value hr (c := .int .u8 b.toNat) (run_v ?_) (.int _ _) h5
      have hs : s[i.toNat]? = some b := by
        have hlt : i.toNat < s.data.toList.length := by
          rcases Nat.lt_or_ge i.toNat s.data.toList.length with h' | h'
          · exact h'
          · rw [List.getElem?_eq_none h'] at h4; cases h4
        have hlt' : i.toNat < s.size := by simpa using hlt
        rw [List.getElem?_eq_getElem hlt] at h4
        rw [getElem?_pos s i.toNat hlt']
        have h4' : s.data[i.toNat]'hlt' = b := by simpa using h4
        exact congrArg some h4'
      simp [Instr.index, run_underlying' hd, hcs, hci, asIntOf, h0, hs]
  · cases hk

theorem ok_extract {x : Operand} {i : Nat} (hr : HRel φ h w) (ht : TR φ tm nt a.tmps) (hk : evOp P O tm (.extract x i) h K = some r) : OpOK P φ h w a ⟨dst, .extract x i, ty, pos, after, guard⟩ K r := by
  simp only [evOp] at hk
  split at hk
  · rename_i vs hx
    simp only [Option.bind_eq_some_iff] at hk
    obtain ⟨v, h1, h2⟩ := hk
    obtain ⟨ds, hc, hv⟩ := vr_tuple (opv_rel ht hx)
    obtain ⟨c, h3, h4⟩ := hv.get i v h1
    refine .value hr (c := c) (run_v ?_) h4 h2
    have h3' : ds[i]? = some c := by simpa using h3
    simp [Instr.extract, hc, h3']
  · cases hk
end
end Go.Lg
