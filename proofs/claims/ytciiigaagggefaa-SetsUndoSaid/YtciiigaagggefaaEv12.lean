/- Soundness of the evaluator. Part 12: builtins and calls; regions in the text's order. -/
import Derived.Test.YtciiigaagggefaaEv22
import Derived.Defers
namespace Go.Lg
open Go

section
variable {P : Program} {φ : Emb} {h : AH} {w : World} {a : Act} {tm : T Value} {nt : Nat} {K : Value → AH → Res} {r : Value × AH}

theorem run_builtin_v {b : Builtin} {ats : Array TypeId} {ty : TypeId} {cs : Array Bool} {args : Array Value} {s : Sem Value} {w' : World} {c : Value}
    (hb : builtin b ats ty cs args = (do pure (.value (← s)))) (hs : s.run P w = .ok c w') : (builtin b ats ty cs args).run P w = .ok (.value c) w' := by
  rw [hb]; simp [hs]

theorem evBuiltin_sound {b : Builtin} {ats : Array TypeId} {as : Array Operand} {ty : TypeId} {cst : Array Bool} (hr : HRel φ h w) (ht : TR φ tm nt a.tmps) (hk : evBuiltin P tm b ats.toList as.toList h K = some r) :
    ∃ φ' v h' c w', (builtin b ats ty cst (as.map a.eval)).run P w = .ok (.value c) w' ∧ Good φ w h' w' φ' ∧ VR φ' v c ∧ K v h' = some r := by
  obtain ⟨ats⟩ := ats
  obtain ⟨as⟩ := as
  simp only at hk
  unfold evBuiltin at hk
  split at hk
  · rename_i t tx s x
    split at hk
    · rename_i vs vx hs hx
      simp only [Option.bind_eq_some_iff] at hk
      obtain ⟨⟨v0, h0⟩, hk1, hk2⟩ := hk
      have h4 := castCK_inv hk2
      obtain ⟨φ', v, h', c, w', h1, h2, h3, h5⟩ := aappend_sound (ty := ty) (K := fun v h => some (v, h)) hr (opv_rel ht hs) (opv_rel ht hx) hk1
      simp only [Option.some.injEq, Prod.mk.injEq] at h5
      obtain ⟨rfl, rfl⟩ := h5
      exact ⟨φ', v, h', c, w', run_builtin_v (s := Builtin.append_ #[t, tx] ty #[a.eval s, a.eval x]) (by simp only [List.map_toArray, List.map_cons, List.map_nil]; rfl) h1, h2, h3, h4⟩
    · cases hk
  · rename_i t x
    split at hk
    · rename_i s hd hx
      have hc := vr_string (opv_rel ht hx)
      refine ⟨φ, _, h, _, w, run_builtin_v (s := Builtin.len_ #[t] ty #[a.eval x]) (by simp only [List.map_toArray, List.map_cons, List.map_nil]; rfl) (c := .int .i64 s.data.toList.length) ?_, .refl hr, .int _ _, hk⟩
      simp [Builtin.len_, run_underlying' hd, hc, goInt]
    · rename_i e p n cp hd hx
      have hv := opv_rel ht hx
      obtain ⟨p', c', hc⟩ : ∃ p' c', a.eval x = .slice p' n c' := by
        generalize a.eval x = q at hv
        cases hv <;> exact ⟨_, _, rfl⟩
      refine ⟨φ, _, h, _, w, run_builtin_v (s := Builtin.len_ #[t] ty #[a.eval x]) (by simp only [List.map_toArray, List.map_cons, List.map_nil]; rfl) (c := .int .i64 n) ?_, .refl hr, .int _ _, hk⟩
      simp [Builtin.len_, run_underlying' hd, hc, goInt]
    · rename_i k e m hd hx
      simp only [Option.bind_eq_some_iff] at hk
      obtain ⟨es, hes, hk⟩ := hk
      cases m with
      | none =>
        simp only [mapOf, Option.some.injEq] at hes
        subst hes
        have hv := opv_rel ht hx
        have hc : a.eval x = .map none := by
          generalize a.eval x = q at hv
          cases hv; rfl
        refine ⟨φ, _, h, _, w, run_builtin_v (s := Builtin.len_ #[t] ty #[a.eval x]) (by simp only [List.map_toArray, List.map_cons, List.map_nil]; rfl) (c := .int .i64 0) ?_, .refl hr, .int _ _, hk⟩
        simp [Builtin.len_, run_underlying' hd, hc, goInt]
      | some m =>
      simp only [mapOf] at hes
      split at hes
      · rename_i es0 clk hb
        obtain rfl := Option.some.inj hes
        have hv := opv_rel ht hx
        obtain ⟨t', es', g1, g2, g3, g4⟩ := hr.maps m es0 clk hb
        have hc : a.eval x = .map (some t'.blk) := by
          generalize a.eval x = q at hv
          cases hv with
          | map h1 => rw [g1] at h1; obtain rfl := Option.some.inj h1; rfl
        have hget : (getObj t'.blk).run P w = .ok (.map es' clk) w := by simp [getObj, Sem.run, g3]
        refine ⟨φ, _, h, _, w, run_builtin_v (s := Builtin.len_ #[t] ty #[a.eval x]) (by simp only [List.map_toArray, List.map_cons, List.map_nil]; rfl) (c := .int .i64 es0.length) ?_, .refl hr, .int _ _, hk⟩
        have hl := g4.len
        simp only [Array.length_toList] at hl
        simp [Builtin.len_, run_underlying' hd, hc, goInt, hget, hl]
      · cases hes
    · cases hk
  · rename_i x y
    split at hk
    · rename_i k i k' j hx hy
      have h1 := vr_int (opv_rel ht hx)
      have h2 := vr_int (opv_rel ht hy)
      refine ⟨φ, _, h, _, w, run_builtin_v (s := Builtin.min_ ⟨ats⟩ ty #[a.eval x, a.eval y]) (by simp only [List.map_toArray, List.map_cons, List.map_nil]; rfl) (c := .int k (cond (decide (j < i)) j i)) ?_, .refl hr, .int _ _, hk⟩
      simp only [h1, h2, Builtin.min_, List.foldlM_cons, List.foldlM_nil, Builtin.min2, Sem.run_bind, Sem.run_pure, Result.andThen_ok]
      by_cases hji : j < i <;> simp [hji]
    · cases hk
  · rename_i x y
    split at hk
    · rename_i k i k' j hx hy
      have h1 := vr_int (opv_rel ht hx)
      have h2 := vr_int (opv_rel ht hy)
      refine ⟨φ, _, h, _, w, run_builtin_v (s := Builtin.max_ ⟨ats⟩ ty #[a.eval x, a.eval y]) (by simp only [List.map_toArray, List.map_cons, List.map_nil]; rfl) (c := .int k (cond (decide (i < j)) j i)) ?_, .refl hr, .int _ _, hk⟩
      simp only [h1, h2, Builtin.max_, List.foldlM_cons, List.foldlM_nil, Builtin.max2, Sem.run_bind, Sem.run_pure, Result.andThen_ok]
      by_cases hji : i < j <;> simp [hji]
    · cases hk
  · rename_i t tk m k
    simp only [Option.bind_eq_some_iff] at hk
    obtain ⟨mv, hm, kv, hkv, ⟨d, e⟩, hty, h', hdel, hk⟩ := hk
    obtain ⟨w', h1, h2⟩ := adel_sound (P := P) (tk := tk) (ty := ty) hr hty (opv_rel ht hm) (opv_rel ht hkv) hdel
    exact ⟨φ, _, h', .tuple #[], w', run_builtin_v (s := Builtin.delete_ #[t, tk] ty #[a.eval m, a.eval k]) (by simp only [List.map_toArray, List.map_cons, List.map_nil]; rfl) h1, h2, .tuple rfl (by simp), hk⟩
  · rename_i t x
    split at hk
    · rename_i e p n cp hd hx
      have hv := opv_rel ht hx
      simp only [Option.bind_eq_some_iff] at hk
      obtain ⟨z, hz0, h', hcl, hk⟩ := hk
      obtain ⟨i, zv, hi, hz, rfl, hzs, hfl⟩ := zeroCellsOf_inv hz0
      cases n with
      | zero =>
        have hc : ∃ p' c', a.eval x = .slice p' 0 c' := by
          generalize a.eval x = q at hv
          cases hv <;> exact ⟨_, _, rfl⟩
        obtain ⟨p', c', hc⟩ := hc
        obtain rfl := Option.some.inj hcl
        refine ⟨φ, _, h, .tuple #[], w, run_builtin_v (s := Builtin.clear_ #[t] ty #[a.eval x]) (by simp only [List.map_toArray, List.map_cons, List.map_nil]; rfl) ?_, .refl hr, .tuple rfl (by simp), hk⟩
        cases p' <;> simp [Builtin.clear_, run_underlying' hd, hc]
      | succ n =>
        cases p with
        | none => cases hcl
        | some ad =>
          have hst : h.st ad.block ad.off (repL zv.cells.toList (n + 1)) = some h' := hcl
          rcases vr_slice hv with ⟨_, _, _, _, _, h0, _⟩ | ⟨t', ra, c', hφ, hsp, hc, hcase⟩
          · cases h0
          have hra : ra = t'.sh + ad.off := by
            rcases hcase with ⟨_, _, h | ⟨h, _⟩⟩ | ⟨_, _, _, h | ⟨h, _⟩⟩ <;> first | exact h | omega
          subst hra
          obtain ⟨w', h1, h2⟩ := st_sound (P := P) hr hφ (repL_VRs (flats_VRs (φ := φ) hfl) (n + 1)) (repL_all (all_flat1_cellOk hfl) (n + 1)) hst
          refine ⟨φ, _, h', .tuple #[], w', run_builtin_v (s := Builtin.clear_ #[t] ty #[a.eval x]) (by simp only [List.map_toArray, List.map_cons, List.map_nil]; rfl) ?_, h2, .tuple rfl (by simp), hk⟩
          simp [Builtin.clear_, run_underlying' hd, hc, run_zeroValue' hi hz, zeroCells_toList, h1]
    · cases hk
  · cases hk

end

theorem castTs_inv {P : Program} : ∀ {ts : List TypeId} {l : List Value} {K : List Value → Res} {r : Value × AH}, castTs P ts l K = some r → K l = some r
  | [], [], _, _, h => h
  | [], _ :: _, _, _, h => by simp [castTs] at h
  | t :: ts, l, K, r, h => by
    simp only [castTs, Option.bind_eq_some_iff] at h
    obtain ⟨⟨v, vs⟩, h1, h2⟩ := h
    cases l with
    | nil => simp [hdO] at h1
    | cons u us =>
      simp only [hdO, Option.some.injEq, Prod.mk.injEq] at h1
      obtain ⟨rfl, rfl⟩ := h1
      have h3 := castT_inv h2
      exact castTs_inv (ts := ts) (l := us) (K := fun vs => K (u :: vs)) h3
theorem castR_inv {P : Program} {ts : List TypeId} {v : Value} {K : Value → Res} {r : Value × AH} (h : castR P ts v K = some r) : K v = some r := by
  unfold castR at h
  split at h
  · exact castT_inv h
  · simp only [Option.bind_eq_some_iff] at h
    obtain ⟨l, h1, h2⟩ := h
    have h3 := castTs_inv h2
    unfold asTu at h1
    split at h1
    · obtain rfl := Option.some.inj h1; simpa using h3
    · cases h1
theorem resTypes_inv {P : Program} {f : FuncId} {ts : List TypeId} (h : resTypes P f = some ts) : hasBody P f = true := by
  unfold resTypes at h
  cases hb : hasBody P f with
  | true => rfl
  | false => rw [hb, cond_false] at h; cases h

/-- what a call owes -/
def CallOK (P : Program) (f : FuncId) (args : List Value) (h : AH) (r : Value × AH) : Prop :=
  ∀ (φ : Emb) (w : World) (cs : List Value), HRel φ h w → VRs φ args cs →
    (Calls P f cs.toArray w fun e w' => ∃ φ' c, e = .returned c ∧ Good φ w r.2 w' φ' ∧ VR φ' r.1 c) ∧
    CallsD P f cs.toArray .returning w fun e u w' => u = .returning ∧ ∃ φ' c, e = .returned c ∧ Good φ w r.2 w' φ' ∧ VR φ' r.1 c

section
variable {P : Program} {φ : Emb} {w : World} {a : Act} {tm : T Value} {nt : Nat}

theorem calleeOf_sound {cl : Callee} {args : Array Operand} {ats : Array TypeId} {ty : TypeId} {f : FuncId} {first cap vs : List Value} (ht : TR φ tm nt a.tmps) (hnb : ∀ b, cl ≠ .builtin b)
    (hc : calleeOf P tm cl = some (f, first, cap)) (hv : opvs tm args.toList = some vs) (hb : hasBody P f = true) :
    ∃ cs, VRs φ (first ++ vs ++ cap) cs ∧ (do let d ← resolve a.eval ⟨cl, args, ats⟩ ty; invoke d.target d.args : Sem Next).run P w = .ok (.enter f cs.toArray) w := by
  have hvs := opvs_rel ht hv
  have hcall : ∀ xs : Array Value, (callFunc f xs).run P w = .ok (.enter f xs) w := by
    intro xs
    unfold hasBody at hb
    split at hb
    · rename_i fn hf
      simp only [Bool.and_eq_true, Bool.not_eq_true'] at hb
      have h2 := hb.2
      rw [beq_eq_false_iff_ne] at h2
      cases hbb : fn.body with
      | none => rw [hbb] at hb; simp at hb
      | some c => simp [callFunc, hf, hbb, h2]
    · cases hb
  unfold calleeOf at hc
  split at hc
  · -- a function by its name
    simp only [Option.some.injEq, Prod.mk.injEq] at hc
    obtain ⟨rfl, rfl, rfl⟩ := hc
    refine ⟨args.toList.map a.eval, by simpa using hvs, ?_⟩
    simp [resolve, Act.eval, Deferred.ofValue, invoke, hcall]
    apply Array.ext'
    simp
  · rename_i x hx
    split at hc
    · rename_i f' as bs hv'
      simp only [Option.some.injEq, Prod.mk.injEq] at hc
      obtain ⟨rfl, rfl, rfl⟩ := hc
      have := opv_rel ht hv'
      generalize hq : a.eval x = q at this
      cases this with
      | @func _ _ _ as' bs' h1 h2 h3 h4 =>
        refine ⟨as'.toList ++ args.toList.map a.eval ++ bs'.toList, ((VRs.of_get (by simpa using h1) (by simpa using h2)).append hvs).append (VRs.of_get (by simpa using h3) (by simpa using h4)), ?_⟩
        simp only [resolve, hq, Deferred.ofValue, Sem.run_bind, Sem.run_pure, Result.andThen_ok, invoke, hcall]
        congr 2
        apply Array.ext'
        simp
    · cases hc
  · rename_i rc name
    split at hc
    · rename_i t v hv'
      simp only [Option.bind_eq_some_iff] at hc
      obtain ⟨i, hi, hc⟩ := hc
      split at hc
      · rename_i m hm
        split at hc
        · rename_i f' pr d hpath hfun hd
          obtain ⟨c', hce, hvc⟩ := vr_iface (opv_rel ht hv')
          have hmeth : (method ((P.types.size + Made.depth)) t c' name).run P w = .ok (f', c') w ∧ first = [v] ∧ cap = [] ∧ f = f' := by
            have hdep : P.types.size + Made.depth = (P.types.size + (Made.depth - 1)) + 1 := by
              have : Made.depth = (Made.depth - 1) + 1 := by decide
              omega
            have hfind : i.methods.find? (·.name == name) = some m := by
              rw [← Array.find?_toList]; exact hm
            rw [hdep]
            split at hc
            · cases pr with
              | false => cases hc
              | true =>
                simp only [cond_true, Option.some.injEq, Prod.mk.injEq] at hc
                obtain ⟨rfl, rfl, rfl⟩ := hc
                refine ⟨?_, rfl, rfl, rfl⟩
                simp only [method, Sem.run_bind, run_typeInfo' hi, Result.andThen_ok, hfind, hpath, follow, Sem.run_pure, hfun, receiverAt, run_underlying' hd, Place.get]
            · cases hc
            · rename_i hnp hni
              cases pr with
              | true => cases hc
              | false =>
                simp only [cond_false, Option.some.injEq, Prod.mk.injEq] at hc
                obtain ⟨rfl, rfl, rfl⟩ := hc
                refine ⟨?_, rfl, rfl, rfl⟩
                simp only [method, Sem.run_bind, run_typeInfo' hi, Result.andThen_ok, hfind, hpath, follow, Sem.run_pure, hfun, receiverAt, run_underlying' hd]
                cases d <;> first | rfl | exact absurd rfl (hnp _)
          obtain ⟨hmeth, rfl, rfl, rfl⟩ := hmeth
          refine ⟨c' :: args.toList.map a.eval, by simpa using VRs.cons hvc hvs, ?_⟩
          simp only [resolve, hce, Sem.run_bind, Sem.run_pure, Result.andThen_ok, invoke, callMethod]
          have hz : (#[Value.iface t c'] ++ args.map a.eval)[0]? = some (.iface t c') := by rw [Array.getElem?_append_left (by simp)]; rfl
          have hex : (#[Value.iface t c'] ++ args.map a.eval).extract 1 (#[Value.iface t c'] ++ args.map a.eval).size = args.map a.eval := by
            apply Array.ext'
            simp only [Array.toList_extract, Array.toList_append, List.extract_eq_take_drop, List.size_toArray, Array.size_append, Array.size_map, List.length_cons, List.length_nil]
            simp
            exact List.take_of_length_le (by simp)
          simp only [hz, hex, Sem.run_bind, run_program, Result.andThen_ok, hmeth, hcall]
          congr 2
          apply Array.ext'
          simp
        · cases hc
      · cases hc
    · cases hc
  · rename_i b
    exact absurd rfl (hnb b)
end

theorem cellsX_eq {ag : Bool} {v : Value} (h : okX ag v = true) : cellsX ag v = v.cells.toList := by
  cases ag with
  | true => rfl
  | false => cases v <;> first | rfl | (simp [okX, cellOk] at h)
theorem fillX_le {pl : Nat → Option (Nat × Nat × Bool)} {pl' : Nat → Option (Nat × Nat)} (hp : ∀ i p, pl i = some p → pl' i = some (p.1, p.2.1)) : ∀ {ps : List (Nat × Value)} {cs r : List Value}, fillX pl cs ps = some r → fillL pl' cs ps = some r
  | [], _, _, h => h
  | (i, v) :: rest, cs, r, h => by
    simp only [fillX, Option.bind_eq_some_iff] at h
    obtain ⟨p, h1, h2⟩ := h
    cases hc : okX p.2.2 v && (Nat.beq (cellsX p.2.2 v).length p.2.1 && Nat.ble (p.1 + (cellsX p.2.2 v).length) cs.length) with
    | false => rw [hc] at h2; cases h2
    | true =>
      rw [hc, cond_true] at h2
      rw [Bool.and_eq_true] at hc
      rw [cellsX_eq hc.1] at h2
      have h3 := hc.2
      rw [cellsX_eq hc.1] at h3
      simp only [fillL, hp i p h1, Option.bind_some, h3, cond_true]
      exact fillX_le hp h2
theorem placesX_le {P : Program} : ∀ {fs : List Field} {l : List (Nat × Nat × Bool)}, placesX P fs = some l → placesL P fs = some (l.map fun p => (p.1, p.2.1))
  | [], _, h => by simp only [placesX, Option.some.injEq] at h; subst h; rfl
  | f :: fs, l, h => by
    simp only [placesX, Option.bind_eq_some_iff, Option.some.injEq] at h
    obtain ⟨n, h1, l', h2, rfl⟩ := h
    simp only [placesL, h1, Option.bind_some, placesX_le h2, List.map_cons]
theorem placeX_le {P : Program} {t : TypeId} {pl : Nat → Option (Nat × Nat × Bool)} (h : placeX P t = some pl) : ∃ pl', placeOf P t = some pl' ∧ ∀ i p, pl i = some p → pl' i = some (p.1, p.2.1) := by
  unfold placeX at h
  unfold placeOf
  split at h
  · rename_i fs hu
    simp only [Option.bind_eq_some_iff, Option.some.injEq] at h
    obtain ⟨l, h1, rfl⟩ := h
    simp only [hu, placesX_le h1, Option.bind_some]
    refine ⟨_, rfl, fun i p hp => ?_⟩
    simp [List.getElem?_map, hp]
  · rename_i n e hu
    simp only [Option.bind_eq_some_iff, Option.some.injEq] at h
    obtain ⟨sz, h1, rfl⟩ := h
    simp only [hu, h1, Option.bind_some]
    refine ⟨_, rfl, fun i p hp => ?_⟩
    simp only [Option.some.injEq] at hp
    subst hp; rfl
  · cases h
theorem binX_le {P : Program} {op : BinOp} {t : TypeId} {c : Bool} {a b : Value} {K : Value → Res} {r : Value × AH} (h : binX P op t c a b K = some r) : cond (binOk op a b) ((abinT P op t c a b).bind K) none = some r := by
  unfold binX at h
  split at h
  · rename_i e he
    unfold nilT at he
    split at he
    all_goals first
      | (cases he; done)
      | (split at he
         · rename_i hu
           obtain rfl := Option.some.inj he
           simp only [cond_true, cond_false, Option.bind_eq_some_iff] at h
           obtain ⟨q, h1, h2⟩ := h
           cases a <;> simp only [isNilI, isNilG] at h1 <;> first
             | (cases h1; done)
             | (simp only [binOk, cond_true, abinT, hu, aeq]
                first
                  | (obtain rfl := Option.some.inj h1; exact h2)
                  | (cases c with
                     | true => rw [cond_true] at h1; obtain rfl := Option.some.inj h1; exact h2
                     | false => cases h1))
         · cases he)
  · exact h
theorem evOpX_le {P : Program} {O : Orc} {tm : T Value} {ty : TypeId} {op : Op} {h : AH} {K : Option Value → AH → Res} {r : Value × AH} (hk : evOpX P O tm ty op h K = some r) : evOp P O tm op h K = some r := by
  cases op with
  | box e x =>
    simp only [evOpX, Option.bind_eq_some_iff] at hk
    obtain ⟨v, h1, h2⟩ := hk
    cases hc : okX (aggT P e) v && (cellsX (aggT P e) v).all cellOk with
    | false => rw [hc] at h2; cases h2
    | true =>
      rw [hc, cond_true] at h2
      rw [Bool.and_eq_true] at hc
      have h3 := hc.2
      rw [cellsX_eq hc.1] at h2 h3
      simp only [evOp, h1, Option.bind_some, h3, cond_true]
      exact h2
  | build t ps =>
    simp only [evOpX, fillK_eq, Option.bind_eq_some_iff] at hk
    obtain ⟨z, h1, vs, h2, pl, h3, cs, h4, h5⟩ := hk
    obtain ⟨pl', h6, h7⟩ := placeX_le h3
    simp only [evOp, h1, h2, h6, fillX_le h7 h4, Option.bind_some]
    exact h5
  | buildSlice t n ps =>
    simp only [evOpX] at hk
    split at hk
    · rename_i e hu
      simp only [fillK_eq, Option.bind_eq_some_iff] at hk
      obtain ⟨sz, h1, z, h2, vs, h3, h4⟩ := hk
      simp only [evOp, hu, h1, h2, h3, Option.bind_some]
      cases hc : (Nat.beq z.length sz && Nat.ble (n * sz) 65536 && Nat.blt n opn) with
      | false => rw [hc] at h4; cases h4
      | true =>
        rw [hc, cond_true, Option.bind_eq_some_iff] at h4
        obtain ⟨cs, h5, h6⟩ := h4
        rw [cond_true, fillX_le (pl' := fun i => some (i * sz, sz)) (fun i p hp => by simp only [Option.some.injEq] at hp; subst hp; rfl) h5]
        exact h6
    · cases hk
  | store t x y =>
    simp only [evOpX, Option.bind_eq_some_iff] at hk
    obtain ⟨a, h1, h2⟩ := hk
    simp only [evOp, h1, Option.bind_some]
    unfold addrK at h2 ⊢
    split at h2
    · rename_i p
      simp only [Option.bind_eq_some_iff] at h2 ⊢
      obtain ⟨a, h3, v, h4, n, h5, h6⟩ := h2
      refine ⟨a, h3, v, h4, n, h5, ?_⟩
      cases hc : okX (aggT P t) v && (Nat.beq (cellsX (aggT P t) v).length n && (cellsX (aggT P t) v).all cellOk) with
      | false => rw [hc] at h6; cases h6
      | true =>
        rw [hc, cond_true] at h6
        rw [Bool.and_eq_true] at hc
        have h7 := hc.2
        rw [cellsX_eq hc.1] at h6 h7
        rw [h7, cond_true]; exact h6
    · cases h2
  | binOp op t x y u =>
    simp only [evOpX, Option.bind_eq_some_iff] at hk
    obtain ⟨a, h1, b, h2, h3⟩ := hk
    simp only [evOp, h1, h2, Option.bind_some]
    exact binX_le h3
  | call c =>
    obtain ⟨cl, args, ats⟩ := c
    cases cl with
    | builtin b => exact hk
    | value x =>
      simp only [evOpX, Option.bind_eq_some_iff] at hk
      obtain ⟨f, h1, vs, h2, h3⟩ := hk
      simp only [evOp, h1, h2, Option.bind_some]
      cases hb : hasBody P f.1 with
      | false => rw [hb] at h3; cases h3
      | true =>
        rw [hb, cond_true, Option.bind_eq_some_iff] at h3
        obtain ⟨q, h4, h5⟩ := h3
        rw [cond_true, h4, Option.bind_some]
        exact castR_inv h5
    | invoke x n =>
      simp only [evOpX, Option.bind_eq_some_iff] at hk
      obtain ⟨f, h1, vs, h2, h3⟩ := hk
      simp only [evOp, h1, h2, Option.bind_some]
      cases hb : hasBody P f.1 with
      | false => rw [hb] at h3; cases h3
      | true =>
        rw [hb, cond_true, Option.bind_eq_some_iff] at h3
        obtain ⟨q, h4, h5⟩ := h3
        rw [cond_true, h4, Option.bind_some]
        exact castR_inv h5
  | _ => exact hk
end Go.Lg
